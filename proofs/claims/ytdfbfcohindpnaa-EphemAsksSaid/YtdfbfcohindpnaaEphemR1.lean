/- Part of the proof: contracts of functions of the given program on an abstract machine. -/
import Derived.Test.YtdfbfcohindpnaaEphemM
set_option linter.unusedVariables false
set_option linter.unusedSimpArgs false
set_option maxRecDepth 100000
namespace Go.AM.G
open Go Go.AM
theorem refHome_spec {m : Mem} (key n : Int) : C S n_ref10_Home [.int .u64 key, .int .i64 n] m (fun r m' => r = .tup [.int .i64 (if Pow n then homeI key n else 0), .int .i64 (if Pow n then 0 else 1)] ∧ m = m') := by
  have h0 : ∀ x : Int, 0 ≤ IntKind.u64.wrap x ∧ IntKind.u64.wrap x < 18446744073709551616 := fun x => by rw [IntKind.wrap_u64]; omega
  obtain ⟨a, b⟩ := h0 (key * 11400714819323198485)
  have q : ∀ d : Int, 0 < d → IntKind.u64.wrap ((IntKind.u64.wrap (key * 11400714819323198485)).tdiv d) = (IntKind.u64.wrap (key * 11400714819323198485)).fdiv d := fun d hd => by
    rw [Int.tdiv_eq_ediv_of_nonneg a, Int.fdiv_eq_ediv_of_nonneg _ (by omega)]
    have h1 := Int.ediv_nonneg a (by omega : (0 : Int) ≤ d)
    have h2 : (IntKind.u64.wrap (key * 11400714819323198485)) / d ≤ IntKind.u64.wrap (key * 11400714819323198485) := Int.ediv_le_self _ a
    rw [wrap_u64] <;> omega
  refine C_body rfl rfl rfl ?_
  unfold ref10_Home
  by_cases h8 : n = 8
  · subst h8
    have hp : Pow 8 := by decide
    have e : homeI key 8 = IntKind.i64.wrap ((IntKind.u64.wrap (key * 11400714819323198485)).fdiv 2305843009213693952) := rfl
    have c : ¬ (2305843009213693952 : Int) = 0 := by decide
    simp (maxDischargeDepth := 30) only [hp, e, q 2305843009213693952 (by decide), c, amL, args0, Nat.reduceEqDiff, reduceCtorEq, ↓reduceIte, Nat.reduceAdd, resultsA, results1, Int.reduceNeg, splice, Nat.reduceLeDiff, part, fillA, fillE, Nat.reduceLT]
  by_cases h16 : n = 16
  · subst h16
    have hp : Pow 16 := by decide
    have e : homeI key 16 = IntKind.i64.wrap ((IntKind.u64.wrap (key * 11400714819323198485)).fdiv 1152921504606846976) := rfl
    have c : ¬ (1152921504606846976 : Int) = 0 := by decide
    simp (maxDischargeDepth := 30) only [hp, h8, e, q 1152921504606846976 (by decide), c, amL, args0, Nat.reduceEqDiff, reduceCtorEq, ↓reduceIte, Nat.reduceAdd, resultsA, results1, Int.reduceNeg, splice, Nat.reduceLeDiff, part, fillA, fillE, Nat.reduceLT]
  by_cases h32 : n = 32
  · subst h32
    have hp : Pow 32 := by decide
    have e : homeI key 32 = IntKind.i64.wrap ((IntKind.u64.wrap (key * 11400714819323198485)).fdiv 576460752303423488) := rfl
    have c : ¬ (576460752303423488 : Int) = 0 := by decide
    simp (maxDischargeDepth := 30) only [hp, h8, h16, e, q 576460752303423488 (by decide), c, amL, args0, Nat.reduceEqDiff, reduceCtorEq, ↓reduceIte, Nat.reduceAdd, resultsA, results1, Int.reduceNeg, splice, Nat.reduceLeDiff, part, fillA, fillE, Nat.reduceLT]
  by_cases h64 : n = 64
  · subst h64
    have hp : Pow 64 := by decide
    have e : homeI key 64 = IntKind.i64.wrap ((IntKind.u64.wrap (key * 11400714819323198485)).fdiv 288230376151711744) := rfl
    have c : ¬ (288230376151711744 : Int) = 0 := by decide
    simp (maxDischargeDepth := 30) only [hp, h8, h16, h32, e, q 288230376151711744 (by decide), c, amL, args0, Nat.reduceEqDiff, reduceCtorEq, ↓reduceIte, Nat.reduceAdd, resultsA, results1, Int.reduceNeg, splice, Nat.reduceLeDiff, part, fillA, fillE, Nat.reduceLT]
  have hp : ¬ Pow n := by unfold Pow; omega
  simp (maxDischargeDepth := 30) only [hp, h8, h16, h32, h64, amL, args0, Nat.reduceEqDiff, reduceCtorEq, ↓reduceIte, Nat.reduceAdd, resultsA, results1, Int.reduceNeg, splice, Nat.reduceLeDiff, part, fillA, fillE, Nat.reduceLT]
theorem refMany_spec {m : Mem} {v : V} {l : List Slot} (st : Int) (hv : Sl m v 3 (encs l)) (hl : l.length < 2 ^ 62) : C S n_ref10_many [.agg [v], .int .u8 st] m (fun v m' => v = .int .i64 (cnt st l) ∧ Grow m m') := by
  refine C_body rfl rfl rfl ?_
  unfold ref10_many
  have hcell := hv.cell
  have hlen : (encs l).length = l.length := by simp
  simp (maxDischargeDepth := 30) only [hcell, hv.len, amL, args0, Nat.reduceEqDiff, reduceCtorEq, ↓reduceIte, Nat.reduceAdd, resultsA, results1, Int.reduceNeg, splice, Nat.reduceLeDiff, part, fillA, fillE, Nat.reduceLT]
  let I := fun (k : Nat) (fr : Frame) (M : Mem) => ∃ i : Nat, i ≤ l.length ∧ k = l.length - i ∧ fr 1 = .int .u8 st ∧ fr 9 = v ∧ fr 10 = .int .i64 l.length ∧ fr 11 = .int .i64 i ∧ fr 5 = .int .i64 (cnt st (l.take i)) ∧ Grow m M
  refine W_loop I ?_ l.length ?_
  · rintro k fr M ⟨i, hi, rfl, h1, h12, h13, h14, h5, hg⟩
    unfold ref10_many_l0
    simp (maxDischargeDepth := 30) only [h1, h12, h13, h14, h5, amL, args0, Nat.reduceEqDiff, reduceCtorEq, ↓reduceIte, Nat.reduceAdd, resultsA, results1, Int.reduceNeg, splice, Nat.reduceLeDiff, part, fillA, fillE, Nat.reduceLT]
    first | (refine O_split (by simp only [put_apply, Nat.reduceEqDiff, ↓reduceIte, reduceCtorEq]; rfl) (fun h => ?_) (fun h => ?_) <;> simp only [decide_eq_true_eq, decide_eq_false_iff_not, Decidable.not_not, Bool.and_eq_true, Bool.not_eq_true', Bool.not_eq_false'] at h) | (refine W_split (by simp only [get_t, put_apply, Nat.reduceEqDiff, ↓reduceIte, reduceCtorEq]; rfl) (fun h => ?_) (fun h => ?_) <;> simp only [decide_eq_true_eq, decide_eq_false_iff_not, Decidable.not_not, Bool.and_eq_true, Bool.not_eq_true', Bool.not_eq_false'] at h)
    · have hil : i < l.length := by omega
      obtain ⟨s, hs⟩ : ∃ s, l[i]? = some s := ⟨_, List.getElem?_eq_getElem hil⟩
      have hcs := cnt_succ (st := st) hs
      have hcl := cnt_le st (l.take i)
      have hsl := hv.grow hg
      rw [List.length_take] at hcl
      have w1 : IntKind.i64.wrap ((i : Int) + 1) = ((i + 1 : Nat) : Int) := by rw [wrap_i64] <;> omega
      have w2 : IntKind.i64.wrap ((cnt st (l.take i) : Int) + 1) = ((cnt st (l.take i) + 1 : Nat) : Int) := by rw [wrap_i64] <;> omega
      simp (maxDischargeDepth := 30) only [h, h1, h12, h13, h14, h5, hsl.index (ki := .i64) (n := i) (by omega) (by omega), hsl.load (encs_get hs), enc, amL, args0, Nat.reduceEqDiff, reduceCtorEq, ↓reduceIte, Nat.reduceAdd, resultsA, results1, Int.reduceNeg, splice, Nat.reduceLeDiff, part, fillA, fillE, Nat.reduceLT]
      first | (refine O_split (by simp only [put_apply, Nat.reduceEqDiff, ↓reduceIte, reduceCtorEq]; rfl) (fun h' => ?_) (fun h' => ?_) <;> simp only [decide_eq_true_eq, decide_eq_false_iff_not, Decidable.not_not, Bool.and_eq_true, Bool.not_eq_true', Bool.not_eq_false'] at h') | (refine W_split (by simp only [get_t, put_apply, Nat.reduceEqDiff, ↓reduceIte, reduceCtorEq]; rfl) (fun h' => ?_) (fun h' => ?_) <;> simp only [decide_eq_true_eq, decide_eq_false_iff_not, Decidable.not_not, Bool.and_eq_true, Bool.not_eq_true', Bool.not_eq_false'] at h')
      · simp (maxDischargeDepth := 30) only [h1, h12, h13, h14, h5, w1, w2, amL, args0, Nat.reduceEqDiff, reduceCtorEq, ↓reduceIte, Nat.reduceAdd, resultsA, results1, Int.reduceNeg, splice, Nat.reduceLeDiff, part, fillA, fillE, Nat.reduceLT]
        refine ⟨_, ?_, i + 1, by omega, rfl, ?_, ?_, ?_, ?_, ?_, hg.app⟩
        · omega
        all_goals simp (maxDischargeDepth := 30) only [h1, h12, h13, h14, h5, amL, args0, Nat.reduceEqDiff, reduceCtorEq, ↓reduceIte, Nat.reduceAdd, resultsA, results1, Int.reduceNeg, splice, Nat.reduceLeDiff, part, fillA, fillE, Nat.reduceLT]
        rw [hcs, if_pos h']
      · simp (maxDischargeDepth := 30) only [h1, h12, h13, h14, h5, w1, w2, amL, args0, Nat.reduceEqDiff, reduceCtorEq, ↓reduceIte, Nat.reduceAdd, resultsA, results1, Int.reduceNeg, splice, Nat.reduceLeDiff, part, fillA, fillE, Nat.reduceLT]
        refine ⟨_, ?_, i + 1, by omega, rfl, ?_, ?_, ?_, ?_, ?_, hg.app⟩
        · omega
        all_goals simp (maxDischargeDepth := 30) only [h1, h12, h13, h14, h5, amL, args0, Nat.reduceEqDiff, reduceCtorEq, ↓reduceIte, Nat.reduceAdd, resultsA, results1, Int.reduceNeg, splice, Nat.reduceLeDiff, part, fillA, fillE, Nat.reduceLT]
        rw [hcs, if_neg h']
        rfl
    · simp (maxDischargeDepth := 30) only [h, h1, h12, h13, h14, h5, amL, args0, Nat.reduceEqDiff, reduceCtorEq, ↓reduceIte, Nat.reduceAdd, resultsA, results1, Int.reduceNeg, splice, Nat.reduceLeDiff, part, fillA, fillE, Nat.reduceLT]
      have : l.take i = l := List.take_of_length_le (by omega)
      rw [this]
      exact ⟨rfl, hg⟩
  · exact ⟨0, by omega, rfl, by simp (maxDischargeDepth := 30) only [amL, args0, Nat.reduceEqDiff, reduceCtorEq, ↓reduceIte, Nat.reduceAdd, resultsA, results1, Int.reduceNeg, splice, Nat.reduceLeDiff, part, fillA, fillE, Nat.reduceLT], by simp (maxDischargeDepth := 30) only [amL, args0, Nat.reduceEqDiff, reduceCtorEq, ↓reduceIte, Nat.reduceAdd, resultsA, results1, Int.reduceNeg, splice, Nat.reduceLeDiff, part, fillA, fillE, Nat.reduceLT], by simp (maxDischargeDepth := 30) only [hlen, amL, args0, Nat.reduceEqDiff, reduceCtorEq, ↓reduceIte, Nat.reduceAdd, resultsA, results1, Int.reduceNeg, splice, Nat.reduceLeDiff, part, fillA, fillE, Nat.reduceLT], by simp (maxDischargeDepth := 30) only [amL, args0, Nat.reduceEqDiff, reduceCtorEq, ↓reduceIte, Nat.reduceAdd, resultsA, results1, Int.reduceNeg, splice, Nat.reduceLeDiff, part, fillA, fillE, Nat.reduceLT]; rfl, by simp (maxDischargeDepth := 30) only [amL, args0, Nat.reduceEqDiff, reduceCtorEq, ↓reduceIte, Nat.reduceAdd, resultsA, results1, Int.reduceNeg, splice, Nat.reduceLeDiff, part, fillA, fillE, Nat.reduceLT]; rfl, (Grow.refl _).app⟩
/-- where a key is first. -/
def rf (key : Int) : List Slot → Nat → Int
  | [], _ => -1
  | s :: r, i => if s.st = 1 ∧ s.key = key then (i : Int) else rf key r (i + 1)
theorem rf_drop {key : Int} {l : List Slot} {i : Nat} {s : Slot} (h : l[i]? = some s) : rf key (l.drop i) i = if s.st = 1 ∧ s.key = key then (i : Int) else rf key (l.drop (i + 1)) (i + 1) := by
  obtain ⟨hi, e⟩ := List.getElem?_eq_some_iff.1 h
  rw [List.drop_eq_getElem_cons hi, e]
  rfl
theorem refFind_spec {m : Mem} {v : V} {l : List Slot} (key : Int) (hv : Sl m v 3 (encs l)) (hl : l.length < 2 ^ 62) : C S n_ref10_find [.agg [v], .int .u64 key] m (fun v m' => v = .int .i64 (rf key l 0) ∧ Grow m m') := by
  refine C_body rfl rfl rfl ?_
  unfold ref10_find
  have hcell := hv.cell
  have hlen : (encs l).length = l.length := by simp
  simp (maxDischargeDepth := 30) only [hcell, hv.len, amL, args0, Nat.reduceEqDiff, reduceCtorEq, ↓reduceIte, Nat.reduceAdd, resultsA, results1, Int.reduceNeg, splice, Nat.reduceLeDiff, part, fillA, fillE, Nat.reduceLT]
  let I := fun (k : Nat) (fr : Frame) (M : Mem) => ∃ i : Nat, i ≤ l.length ∧ k = l.length - i ∧ fr 1 = .int .u64 key ∧ fr 8 = v ∧ fr 9 = .int .i64 l.length ∧ fr 10 = .int .i64 i ∧ rf key (l.drop i) i = rf key l 0 ∧ Grow m M
  refine W_loop I ?_ l.length ?_
  · rintro k fr M ⟨i, hi, rfl, h1, h12, h13, h14, h5, hg⟩
    unfold ref10_find_l0
    simp (maxDischargeDepth := 30) only [h1, h12, h13, h14, amL, args0, Nat.reduceEqDiff, reduceCtorEq, ↓reduceIte, Nat.reduceAdd, resultsA, results1, Int.reduceNeg, splice, Nat.reduceLeDiff, part, fillA, fillE, Nat.reduceLT]
    first | (refine O_split (by simp only [put_apply, Nat.reduceEqDiff, ↓reduceIte, reduceCtorEq]; rfl) (fun h => ?_) (fun h => ?_) <;> simp only [decide_eq_true_eq, decide_eq_false_iff_not, Decidable.not_not, Bool.and_eq_true, Bool.not_eq_true', Bool.not_eq_false'] at h) | (refine W_split (by simp only [get_t, put_apply, Nat.reduceEqDiff, ↓reduceIte, reduceCtorEq]; rfl) (fun h => ?_) (fun h => ?_) <;> simp only [decide_eq_true_eq, decide_eq_false_iff_not, Decidable.not_not, Bool.and_eq_true, Bool.not_eq_true', Bool.not_eq_false'] at h)
    · have hil : i < l.length := by omega
      obtain ⟨s, hs⟩ : ∃ s, l[i]? = some s := ⟨_, List.getElem?_eq_getElem hil⟩
      have hsl := hv.grow hg
      rw [rf_drop hs] at h5
      have w1 : IntKind.i64.wrap ((i : Int) + 1) = ((i + 1 : Nat) : Int) := by rw [wrap_i64] <;> omega
      have fin : ∀ fr' : Frame, fr' 1 = .int .u64 key → fr' 8 = v → fr' 9 = .int .i64 l.length → fr' 10 = .int .i64 (i + 1 : Nat) → rf key (l.drop (i + 1)) (i + 1) = rf key l 0 → ∀ M' : Mem, Grow m M' → ∃ j, j < l.length - i ∧ I j fr' M' := fun fr' a1 a2 a3 a4 a5 M' a6 => ⟨l.length - (i + 1), by omega, i + 1, by omega, rfl, a1, a2, a3, a4, a5, a6⟩
      by_cases hst : s.st = 1
      · by_cases hk : s.key = key
        · rw [if_pos ⟨hst, hk⟩] at h5
          simp (maxDischargeDepth := 30) only [h, h1, h12, h13, h14, hsl.index (ki := .i64) (n := i) (by omega) (by omega), hsl.load (encs_get hs), enc, hst, hk, amL, args0, Nat.reduceEqDiff, reduceCtorEq, ↓reduceIte, Nat.reduceAdd, resultsA, results1, Int.reduceNeg, splice, Nat.reduceLeDiff, part, fillA, fillE, Nat.reduceLT]
          exact ⟨h5, hg.app⟩
        · rw [if_neg (fun e => hk e.2)] at h5
          simp (maxDischargeDepth := 30) only [h, h1, h12, h13, h14, hsl.index (ki := .i64) (n := i) (by omega) (by omega), hsl.load (encs_get hs), enc, hst, hk, w1, amL, args0, Nat.reduceEqDiff, reduceCtorEq, ↓reduceIte, Nat.reduceAdd, resultsA, results1, Int.reduceNeg, splice, Nat.reduceLeDiff, part, fillA, fillE, Nat.reduceLT]
          refine fin _ ?_ ?_ ?_ ?_ h5 _ hg.app
          all_goals simp (maxDischargeDepth := 30) only [h1, h12, h13, h14, amL, args0, Nat.reduceEqDiff, reduceCtorEq, ↓reduceIte, Nat.reduceAdd, resultsA, results1, Int.reduceNeg, splice, Nat.reduceLeDiff, part, fillA, fillE, Nat.reduceLT]
      · rw [if_neg (fun e => hst e.1)] at h5
        simp (maxDischargeDepth := 30) only [h, h1, h12, h13, h14, hsl.index (ki := .i64) (n := i) (by omega) (by omega), hsl.load (encs_get hs), enc, hst, w1, amL, args0, Nat.reduceEqDiff, reduceCtorEq, ↓reduceIte, Nat.reduceAdd, resultsA, results1, Int.reduceNeg, splice, Nat.reduceLeDiff, part, fillA, fillE, Nat.reduceLT]
        refine fin _ ?_ ?_ ?_ ?_ h5 _ hg.app
        all_goals simp (maxDischargeDepth := 30) only [h1, h12, h13, h14, amL, args0, Nat.reduceEqDiff, reduceCtorEq, ↓reduceIte, Nat.reduceAdd, resultsA, results1, Int.reduceNeg, splice, Nat.reduceLeDiff, part, fillA, fillE, Nat.reduceLT]
    · have : i = l.length := by omega
      subst this
      rw [List.drop_length] at h5
      simp (maxDischargeDepth := 30) only [h, h1, h12, h13, h14, amL, args0, Nat.reduceEqDiff, reduceCtorEq, ↓reduceIte, Nat.reduceAdd, resultsA, results1, Int.reduceNeg, splice, Nat.reduceLeDiff, part, fillA, fillE, Nat.reduceLT]
      exact ⟨by rw [← h5]; rfl, hg⟩
  · exact ⟨0, by omega, rfl, by simp (maxDischargeDepth := 30) only [amL, args0, Nat.reduceEqDiff, reduceCtorEq, ↓reduceIte, Nat.reduceAdd, resultsA, results1, Int.reduceNeg, splice, Nat.reduceLeDiff, part, fillA, fillE, Nat.reduceLT], by simp (maxDischargeDepth := 30) only [amL, args0, Nat.reduceEqDiff, reduceCtorEq, ↓reduceIte, Nat.reduceAdd, resultsA, results1, Int.reduceNeg, splice, Nat.reduceLeDiff, part, fillA, fillE, Nat.reduceLT], by simp (maxDischargeDepth := 30) only [hlen, amL, args0, Nat.reduceEqDiff, reduceCtorEq, ↓reduceIte, Nat.reduceAdd, resultsA, results1, Int.reduceNeg, splice, Nat.reduceLeDiff, part, fillA, fillE, Nat.reduceLT], by simp (maxDischargeDepth := 30) only [amL, args0, Nat.reduceEqDiff, reduceCtorEq, ↓reduceIte, Nat.reduceAdd, resultsA, results1, Int.reduceNeg, splice, Nat.reduceLeDiff, part, fillA, fillE, Nat.reduceLT]; rfl, rfl, (Grow.refl _).app⟩
end Go.AM.G

set_option maxRecDepth 100000
namespace Go.AM.G
open Go Go.AM
/-! ### the document's Check is the program's -/
theorem rf_cases (key : Int) : ∀ (r : List Slot) (i : Nat), (rf key r i = -1 ∧ ∀ s ∈ r, ¬ (s.st = 1 ∧ s.key = key)) ∨ ∃ (j : Nat) (s : Slot), rf key r i = ((i + j : Nat) : Int) ∧ r[j]? = some s ∧ s.st = 1 ∧ s.key = key ∧ ∀ (j' : Nat) (s' : Slot), j' < j → r[j']? = some s' → ¬ (s'.st = 1 ∧ s'.key = key)
  | [], i => .inl ⟨rfl, by simp⟩
  | a :: r, i => by
    simp only [rf]
    by_cases h : a.st = 1 ∧ a.key = key
    · rw [if_pos h]
      exact .inr ⟨0, a, by simp, rfl, h.1, h.2, fun j' _ hj => absurd hj (Nat.not_lt_zero _)⟩
    · rw [if_neg h]
      rcases rf_cases key r (i + 1) with ⟨h1, h2⟩ | ⟨j, s, h1, h2, h3, h4, h5⟩
      · refine .inl ⟨h1, fun s hs => ?_⟩
        rcases List.mem_cons.1 hs with rfl | hs
        · exact h
        · exact h2 s hs
      · refine .inr ⟨j + 1, s, by rw [h1]; congr 1; omega, by simpa using h2, h3, h4, fun j' s' hj hs' => ?_⟩
        cases j' with
        | zero => simp at hs'; subst hs'; exact h
        | succ j' => exact h5 j' s' (by omega) (by simpa using hs')
/-- how far a slot stands from its key's home. -/
def dist (l : List Slot) (i : Nat) (key : Int) : Nat := (i + l.length - hk l key) % l.length
def noFree (l : List Slot) (key : Int) (d : Nat) : Prop := ∀ e, e < d → (sl l (hk l key) e).st ≠ 0
theorem dist_at {l : List Slot} {i : Nat} {key : Int} (hp : Pow l.length) (hi : i < l.length) : (hk l key + dist l i key) % l.length = i ∧ dist l i key < l.length := by
  have hh := hk_lt (k := key) hp
  refine ⟨?_, Nat.mod_lt _ (by omega)⟩
  unfold dist
  rw [Nat.add_mod_mod]
  have : hk l key + (i + l.length - hk l key) = i + l.length := by omega
  rw [this, Nat.add_mod_right, Nat.mod_eq_of_lt hi]
def refOk (l : List Slot) (i : Nat) (s : Slot) : Prop := s.st < 3 ∧ (s.st ≠ 1 → s.key = 0 ∧ s.val = 0) ∧ (s.st = 1 → s.key ≠ 0 ∧ rf s.key l 0 = i ∧ noFree l s.key (dist l i s.key))
theorem refValid_iff {l : List Slot} : validB l = true ↔ l.length = 0 ∨ Pow l.length ∧ l.length ≤ 4 * cnt 0 l ∧ ∀ i s, l[i]? = some s → refOk l i s := by
  rw [valid_iff]
  constructor
  · rintro (h | ⟨h, h4⟩)
    · exact .inl h
    refine .inr ⟨h.pow, h4, fun i s hi => ?_⟩
    have hok := h.ok i s hi
    have hil := (List.getElem?_eq_some_iff.1 hi).1
    have h3 : s.st < 3 := by
      simp only [okS, Bool.and_eq_true, decide_eq_true_eq] at hok
      exact hok.1
    refine ⟨h3, fun hne => ?_, fun h1 => ?_⟩
    · simpa [okS, hne, h3] using hok
    · obtain ⟨hf, hk0⟩ := h.find hi h1
      refine ⟨hk0, ?_, ?_⟩
      · rcases rf_cases s.key l 0 with ⟨_, hn⟩ | ⟨j, s', e, hj, a, b, _⟩
        · exact absurd ⟨h1, rfl⟩ (hn s (List.mem_of_getElem? hi))
        · have := h.uniq hj a hi h1 b
          rw [e, this]
          simp
      · obtain ⟨d, d1, d2, d3, _⟩ := find_true h.pow (k := s.key) (by rw [hf])
        rw [hf] at d3
        obtain ⟨e1, e2⟩ := dist_at (key := s.key) h.pow hil
        have : d = dist l i s.key := mod_inj (hk_lt (k := s.key) h.pow) d1 e2 (by rw [e1]; exact d3.symm)
        intro e he
        rw [← this] at he
        exact (d2 e he).1
  · rintro (h | ⟨hp, h4, hall⟩)
    · exact .inl h
    have hle := hp.le
    refine .inr ⟨⟨hp, by omega, fun i s hi => ?_⟩, h4⟩
    obtain ⟨h3, h0, h1⟩ := hall i s hi
    have hil := (List.getElem?_eq_some_iff.1 hi).1
    by_cases hst : s.st = 1
    · obtain ⟨hk0, hrf, hnf⟩ := h1 hst
      obtain ⟨e1, e2⟩ := dist_at (key := s.key) hp hil
      have hsl : sl l (hk l s.key) (dist l i s.key) = s := by
        have := sl_get (l := l) (h := hk l s.key) (d := dist l i s.key) (by omega)
        rw [e1, hi] at this
        exact (Option.some.inj this).symm
      have hfd := find_at (k := s.key) hp (by omega) e2 (fun e he => ⟨hnf e he, fun hc => ?_⟩) (by rw [hsl]; exact hst) (by rw [hsl])
      · rw [e1] at hfd
        simp [okS, hst, hfd, hk0]
      · have hg := sl_get (l := l) (h := hk l s.key) (d := e) (by omega)
        have hx := (hall _ _ hg).2.2 hc.1
        rw [hc.2, hrf] at hx
        have h2 : i = (hk l s.key + e) % l.length := by omega
        have := mod_inj (hk_lt (k := s.key) hp) (by omega : e < l.length) e2 (by rw [e1]; exact h2.symm)
        omega
    · have := h0 hst
      simp [okS, hst, this, h3]
theorem refCheck_spec {m : Mem} {v : V} {l : List Slot} (hv : Sl m v 3 (encs l)) (hlt : l.length < 2 ^ 60) : C S n_ref10_Check [.agg [v]] m (fun r m' => r = .int .i64 (if validB l = true then 0 else 2) ∧ Grow m m') := by
  refine C_body rfl rfl rfl ?_
  unfold ref10_Check
  have hlen : (encs l).length = l.length := by simp
  have hcell := hv.cell
  simp (maxDischargeDepth := 30) only [hv.len, hcell, hlen, amL, args0, Nat.reduceEqDiff, reduceCtorEq, ↓reduceIte, Nat.reduceAdd, resultsA, results1, Int.reduceNeg, splice, Nat.reduceLeDiff, part, fillA, fillE, Nat.reduceLT]
  first | (refine O_split (by simp only [put_apply, Nat.reduceEqDiff, ↓reduceIte, reduceCtorEq]; rfl) (fun h0 => ?_) (fun h0 => ?_) <;> simp only [decide_eq_true_eq, decide_eq_false_iff_not, Decidable.not_not, Bool.and_eq_true, Bool.not_eq_true', Bool.not_eq_false'] at h0) | (refine W_split (by simp only [get_t, put_apply, Nat.reduceEqDiff, ↓reduceIte, reduceCtorEq]; rfl) (fun h0 => ?_) (fun h0 => ?_) <;> simp only [decide_eq_true_eq, decide_eq_false_iff_not, Decidable.not_not, Bool.and_eq_true, Bool.not_eq_true', Bool.not_eq_false'] at h0)
  · have : l.length = 0 := by omega
    simp (maxDischargeDepth := 30) only [validB, this, Bool.true_or, amL, args0, Nat.reduceEqDiff, reduceCtorEq, ↓reduceIte, Nat.reduceAdd, resultsA, results1, Int.reduceNeg, splice, Nat.reduceLeDiff, part, fillA, fillE, Nat.reduceLT]
    exact (Grow.refl _).app
  have h00 : ¬ l.length = 0 := by omega
  simp (maxDischargeDepth := 30) only [amL, args0, Nat.reduceEqDiff, reduceCtorEq, ↓reduceIte, Nat.reduceAdd, resultsA, results1, Int.reduceNeg, splice, Nat.reduceLeDiff, part, fillA, fillE, Nat.reduceLT]
  refine (refHome_spec 0 l.length).mono ?_
  rintro _ _ ⟨rfl, rfl⟩
  by_cases hpow : Pow l.length
  · have hpl := hpow.le
    have c1 : ¬ ¬ (0 : Int) = 0 := by omega
    simp (maxDischargeDepth := 30) only [aft_mk, hpow, c1, amL, args0, Nat.reduceEqDiff, reduceCtorEq, ↓reduceIte, Nat.reduceAdd, resultsA, results1, Int.reduceNeg, splice, Nat.reduceLeDiff, part, fillA, fillE, Nat.reduceLT]
    refine (refMany_spec 0 hv.app (by omega)).mono ?_
    rintro _ M0 ⟨rfl, hg0⟩
    have hcl := cnt_le 0 l
    have w1 : IntKind.i64.wrap (4 * (cnt 0 l : Int)) = 4 * (cnt 0 l : Int) := by rw [wrap_i64] <;> omega
    simp (maxDischargeDepth := 30) only [aft_mk, w1, hpow, hcell, c1, amL, args0, Nat.reduceEqDiff, reduceCtorEq, ↓reduceIte, Nat.reduceAdd, resultsA, results1, Int.reduceNeg, splice, Nat.reduceLeDiff, part, fillA, fillE, Nat.reduceLT]
    have hgm := ((Grow.refl m).app (g := [Blk.cells true [[v]]])).trans hg0
    have hp0 : M0[m.length]? = some (.cells true [[v]]) := hg0.get (by simp)
    by_cases h4 : l.length ≤ 4 * cnt 0 l
    · have c4 : ¬ 4 * (cnt 0 l : Int) < l.length := by omega
      simp (maxDischargeDepth := 30) only [c4, hv.len, hlen, load_at0 hp0, amL, args0, Nat.reduceEqDiff, reduceCtorEq, ↓reduceIte, Nat.reduceAdd, resultsA, results1, Int.reduceNeg, splice, Nat.reduceLeDiff, part, fillA, fillE, Nat.reduceLT]
      have hvalid : (validB l = true) ↔ ∀ i s, l[i]? = some s → refOk l i s := by
        rw [refValid_iff]
        exact ⟨fun h => (h.resolve_left h00).2.2, fun h => .inr ⟨hpow, h4, h⟩⟩
      let I := fun (k : Nat) (fr : Frame) (M : Mem) => ∃ i : Nat, i ≤ l.length ∧ k = l.length - i ∧ fr 1 = .ptr m.length 0 0 ∧ fr 3 = .int .i64 l.length ∧ fr 30 = v ∧ fr 31 = .int .i64 l.length ∧ fr 32 = .int .i64 i ∧ (∀ j s, j < i → l[j]? = some s → refOk l j s) ∧ Grow M0 M
      refine W_loop I ?_ l.length ?_
      · rintro k fr M ⟨i, hi, rfl, f1, f3, f30, f31, f32, hok, hg⟩
        unfold ref10_Check_l0
        simp (maxDischargeDepth := 30) only [f1, f3, f30, f31, f32, amL, args0, Nat.reduceEqDiff, reduceCtorEq, ↓reduceIte, Nat.reduceAdd, resultsA, results1, Int.reduceNeg, splice, Nat.reduceLeDiff, part, fillA, fillE, Nat.reduceLT]
        first | (refine O_split (by simp only [put_apply, Nat.reduceEqDiff, ↓reduceIte, reduceCtorEq]; rfl) (fun h => ?_) (fun h => ?_) <;> simp only [decide_eq_true_eq, decide_eq_false_iff_not, Decidable.not_not, Bool.and_eq_true, Bool.not_eq_true', Bool.not_eq_false'] at h) | (refine W_split (by simp only [get_t, put_apply, Nat.reduceEqDiff, ↓reduceIte, reduceCtorEq]; rfl) (fun h => ?_) (fun h => ?_) <;> simp only [decide_eq_true_eq, decide_eq_false_iff_not, Decidable.not_not, Bool.and_eq_true, Bool.not_eq_true', Bool.not_eq_false'] at h)
        · have hil : i < l.length := by omega
          obtain ⟨s, hs⟩ : ∃ s, l[i]? = some s := ⟨_, List.getElem?_eq_getElem hil⟩
          have hsl := (hv.grow hgm).grow hg
          have ix := hsl.index (ki := .i64) (n := i) (by omega) (by omega)
          have ld := fun o k => hsl.load (o := o) (k := k) (encs_get hs)
          simp only [Int.toNat_natCast, enc] at ix ld
          have w1 : IntKind.i64.wrap ((i : Int) + 1) = ((i + 1 : Nat) : Int) := by rw [wrap_i64] <;> omega
          have hp1 := hg.get hp0
          have hbad : ¬ refOk l i s → (if validB l = true then (0 : Int) else 2) = 2 := fun hb => by
            rw [if_neg (fun hv => hb (hvalid.1 hv i s hs))]
          have fin : ∀ fr' : Frame, fr' 1 = .ptr m.length 0 0 → fr' 3 = .int .i64 l.length → fr' 30 = v → fr' 31 = .int .i64 l.length → fr' 32 = .int .i64 (i + 1 : Nat) → refOk l i s → ∀ M' : Mem, Grow M0 M' → ∃ j, j < l.length - i ∧ I j fr' M' := fun fr' a1 a3 a30 a31 a32 ho M' a => ⟨l.length - (i + 1), by omega, i + 1, by omega, rfl, a1, a3, a30, a31, a32, fun j s' hj hs' => by
            by_cases e : j = i
            · subst e; rw [hs] at hs'; cases hs'; exact ho
            · exact hok j s' (by omega) hs', a⟩
          by_cases b3 : 3 ≤ s.st
          · have := hbad (fun ho => by have := ho.1; omega)
            simp (maxDischargeDepth := 30) only [h, f1, f3, f30, f31, f32, ix, ld, b3, this, amL, args0, Nat.reduceEqDiff, reduceCtorEq, ↓reduceIte, Nat.reduceAdd, resultsA, results1, Int.reduceNeg, splice, Nat.reduceLeDiff, part, fillA, fillE, Nat.reduceLT]
            exact (hgm.trans hg).app
          by_cases hst : s.st = 1
          · have b3' : ¬ (3 : Int) ≤ 1 := by omega
            have c11 : ¬ ¬ (1 : Int) = 1 := by omega
            by_cases hk0 : s.key = 0
            · have := hbad (fun ho => (ho.2.2 hst).1 hk0)
              simp (maxDischargeDepth := 30) only [h, f1, f3, f30, f31, f32, ix, ld, hst, b3', c11, hk0, this, amL, args0, Nat.reduceEqDiff, reduceCtorEq, ↓reduceIte, Nat.reduceAdd, resultsA, results1, Int.reduceNeg, splice, Nat.reduceLeDiff, part, fillA, fillE, Nat.reduceLT]
              exact (hgm.trans hg).app
            · simp (maxDischargeDepth := 30) only [h, f1, f3, f30, f31, f32, ix, ld, hst, b3', c11, hk0, load_at0 hp1, amL, args0, Nat.reduceEqDiff, reduceCtorEq, ↓reduceIte, Nat.reduceAdd, resultsA, results1, Int.reduceNeg, splice, Nat.reduceLeDiff, part, fillA, fillE, Nat.reduceLT]
              refine (refFind_spec s.key hsl.app (by omega)).mono ?_
              rintro _ M2 ⟨rfl, hg2⟩
              by_cases hrf : rf s.key l 0 = i
              · have c12 : ¬ ¬ (i : Int) = i := by omega
                have hp2 : M2[M.length]? = some (.cells true [[V.int .u8 1, V.int .u64 s.key, V.int .u64 s.val]]) := hg2.get (by simp)
                simp (maxDischargeDepth := 30) only [aft_mk, hrf, c12, load_at0 hp2, f3, amL, args0, Nat.reduceEqDiff, reduceCtorEq, ↓reduceIte, Nat.reduceAdd, resultsA, results1, Int.reduceNeg, splice, Nat.reduceLeDiff, part, fillA, fillE, Nat.reduceLT]
                refine (refHome_spec s.key l.length).mono ?_
                rintro _ _ ⟨rfl, rfl⟩
                simp (maxDischargeDepth := 30) only [aft_mk, hpow, amL, args0, Nat.reduceEqDiff, reduceCtorEq, ↓reduceIte, Nat.reduceAdd, resultsA, results1, Int.reduceNeg, splice, Nat.reduceLeDiff, part, fillA, fillE, Nat.reduceLT]
                obtain ⟨e1, e2⟩ := dist_at (key := s.key) hpow hil
                have hhk := hk_lt (k := s.key) hpow
                have hhome : homeI s.key l.length = ((hk l s.key : Nat) : Int) := by
                  have := (home_range (key := s.key) hpow).1
                  unfold hk
                  omega
                have hgM2 : Grow M0 M2 := hg.app.trans hg2
                have hvM2 := (hv.grow hgm).grow hgM2
                have hpM2 := hgM2.get hp0
                let J := fun (k : Nat) (fr : Frame) (M : Mem) => ∃ d : Nat, d ≤ dist l i s.key ∧ k = dist l i s.key - d ∧ fr 1 = .ptr m.length 0 0 ∧ fr 3 = .int .i64 l.length ∧ fr 6 = .int .i64 i ∧ fr 8 = .int .i64 ((hk l s.key + d) % l.length : Nat) ∧ fr 30 = v ∧ fr 31 = .int .i64 l.length ∧ fr 32 = .int .i64 i ∧ noFree l s.key d ∧ M = M2
                refine W_loop J ?_ (dist l i s.key) ?_
                · rintro k fr M ⟨d, hd, rfl, g1, g3, g6, g8, g30, g31, g32, hnf, rfl⟩
                  have hml : (hk l s.key + d) % l.length < l.length := Nat.mod_lt _ (by omega)
                  unfold ref10_Check_l1
                  by_cases hat : (hk l s.key + d) % l.length = i
                  · have c13 : ¬ ¬ (((hk l s.key + d) % l.length : Nat) : Int) = i := by omega
                    have hdd : d = dist l i s.key := mod_inj hhk (by omega) e2 (by rw [e1]; exact hat)
                    subst hdd
                    simp (maxDischargeDepth := 30) only [g1, g3, g6, g8, g30, g31, g32, c13, w1, amL, args0, Nat.reduceEqDiff, reduceCtorEq, ↓reduceIte, Nat.reduceAdd, resultsA, results1, Int.reduceNeg, splice, Nat.reduceLeDiff, part, fillA, fillE, Nat.reduceLT]
                    refine fin _ ?_ ?_ ?_ ?_ ?_ ⟨by omega, fun hx => absurd hst hx, fun _ => ⟨hk0, hrf, hnf⟩⟩ _ hgM2
                    all_goals simp (maxDischargeDepth := 30) only [g1, g3, g30, g31, g32, amL, args0, Nat.reduceEqDiff, reduceCtorEq, ↓reduceIte, Nat.reduceAdd, resultsA, results1, Int.reduceNeg, splice, Nat.reduceLeDiff, part, fillA, fillE, Nat.reduceLT]
                  · have c13 : ¬ (((hk l s.key + d) % l.length : Nat) : Int) = i := by omega
                    have hdlt : d < dist l i s.key := by
                      rcases Nat.lt_or_ge d (dist l i s.key) with h | h
                      · exact h
                      · have : d = dist l i s.key := by omega
                        rw [this, e1] at hat
                        exact absurd rfl hat
                    have hgd := sl_get (l := l) (h := hk l s.key) (d := d) (by omega)
                    have ix3 := hvM2.index (ki := .i64) (n := (((hk l s.key + d) % l.length : Nat) : Int)) (by omega) (by omega)
                    have ld3 := fun o k => hvM2.load (o := o) (k := k) (encs_get hgd)
                    simp only [Int.toNat_natCast, enc] at ix3 ld3
                    have c14 : ¬ (l.length : Int) = 0 := by omega
                    have w5 : IntKind.i64.wrap ((((hk l s.key + d) % l.length : Nat) : Int) + 1) = (((hk l s.key + d) % l.length + 1 : Nat) : Int) := by rw [wrap_i64] <;> omega
                    have w6 : (((hk l s.key + d) % l.length + 1 : Nat) : Int).tmod l.length = (((hk l s.key + (d + 1)) % l.length : Nat) : Int) := by
                      rw [Int.tmod_eq_emod_of_nonneg (by omega), ← Int.natCast_emod, Nat.mod_add_mod]
                      rfl
                    by_cases hfr : (sl l (hk l s.key) d).st = 0
                    · have := hbad (fun ho => (ho.2.2 hst).2.2 d hdlt hfr)
                      simp (maxDischargeDepth := 30) only [g1, g3, g6, g8, g30, g31, g32, c13, load_at0 hpM2, ix3, ld3, hfr, this, amL, args0, Nat.reduceEqDiff, reduceCtorEq, ↓reduceIte, Nat.reduceAdd, resultsA, results1, Int.reduceNeg, splice, Nat.reduceLeDiff, part, fillA, fillE, Nat.reduceLT]
                      exact hgm.trans hgM2
                    · simp (maxDischargeDepth := 30) only [g1, g3, g6, g8, g30, g31, g32, c13, load_at0 hpM2, ix3, ld3, hfr, c14, w5, w6, amL, args0, Nat.reduceEqDiff, reduceCtorEq, ↓reduceIte, Nat.reduceAdd, resultsA, results1, Int.reduceNeg, splice, Nat.reduceLeDiff, part, fillA, fillE, Nat.reduceLT]
                      refine ⟨_, ?_, d + 1, by omega, rfl, ?_, ?_, ?_, ?_, ?_, ?_, ?_, ?_, rfl⟩
                      · omega
                      · simp (maxDischargeDepth := 30) only [g1, amL, args0, Nat.reduceEqDiff, reduceCtorEq, ↓reduceIte, Nat.reduceAdd, resultsA, results1, Int.reduceNeg, splice, Nat.reduceLeDiff, part, fillA, fillE, Nat.reduceLT]
                      · simp (maxDischargeDepth := 30) only [g3, amL, args0, Nat.reduceEqDiff, reduceCtorEq, ↓reduceIte, Nat.reduceAdd, resultsA, results1, Int.reduceNeg, splice, Nat.reduceLeDiff, part, fillA, fillE, Nat.reduceLT]
                      · simp (maxDischargeDepth := 30) only [g6, amL, args0, Nat.reduceEqDiff, reduceCtorEq, ↓reduceIte, Nat.reduceAdd, resultsA, results1, Int.reduceNeg, splice, Nat.reduceLeDiff, part, fillA, fillE, Nat.reduceLT]
                      · simp (maxDischargeDepth := 30) only [amL, args0, Nat.reduceEqDiff, reduceCtorEq, ↓reduceIte, Nat.reduceAdd, resultsA, results1, Int.reduceNeg, splice, Nat.reduceLeDiff, part, fillA, fillE, Nat.reduceLT]
                      · simp (maxDischargeDepth := 30) only [g30, amL, args0, Nat.reduceEqDiff, reduceCtorEq, ↓reduceIte, Nat.reduceAdd, resultsA, results1, Int.reduceNeg, splice, Nat.reduceLeDiff, part, fillA, fillE, Nat.reduceLT]
                      · simp (maxDischargeDepth := 30) only [g31, amL, args0, Nat.reduceEqDiff, reduceCtorEq, ↓reduceIte, Nat.reduceAdd, resultsA, results1, Int.reduceNeg, splice, Nat.reduceLeDiff, part, fillA, fillE, Nat.reduceLT]
                      · simp (maxDischargeDepth := 30) only [g32, amL, args0, Nat.reduceEqDiff, reduceCtorEq, ↓reduceIte, Nat.reduceAdd, resultsA, results1, Int.reduceNeg, splice, Nat.reduceLeDiff, part, fillA, fillE, Nat.reduceLT]
                      · intro e he
                        by_cases hed : e = d
                        · subst hed; exact hfr
                        · exact hnf e (by omega)
                · refine ⟨0, Nat.zero_le _, rfl, by simp (maxDischargeDepth := 30) only [f1, amL, args0, Nat.reduceEqDiff, reduceCtorEq, ↓reduceIte, Nat.reduceAdd, resultsA, results1, Int.reduceNeg, splice, Nat.reduceLeDiff, part, fillA, fillE, Nat.reduceLT], by simp (maxDischargeDepth := 30) only [f3, amL, args0, Nat.reduceEqDiff, reduceCtorEq, ↓reduceIte, Nat.reduceAdd, resultsA, results1, Int.reduceNeg, splice, Nat.reduceLeDiff, part, fillA, fillE, Nat.reduceLT], by simp (maxDischargeDepth := 30) only [amL, args0, Nat.reduceEqDiff, reduceCtorEq, ↓reduceIte, Nat.reduceAdd, resultsA, results1, Int.reduceNeg, splice, Nat.reduceLeDiff, part, fillA, fillE, Nat.reduceLT], ?_, by simp (maxDischargeDepth := 30) only [f30, amL, args0, Nat.reduceEqDiff, reduceCtorEq, ↓reduceIte, Nat.reduceAdd, resultsA, results1, Int.reduceNeg, splice, Nat.reduceLeDiff, part, fillA, fillE, Nat.reduceLT], by simp (maxDischargeDepth := 30) only [f31, amL, args0, Nat.reduceEqDiff, reduceCtorEq, ↓reduceIte, Nat.reduceAdd, resultsA, results1, Int.reduceNeg, splice, Nat.reduceLeDiff, part, fillA, fillE, Nat.reduceLT], by simp (maxDischargeDepth := 30) only [f32, amL, args0, Nat.reduceEqDiff, reduceCtorEq, ↓reduceIte, Nat.reduceAdd, resultsA, results1, Int.reduceNeg, splice, Nat.reduceLeDiff, part, fillA, fillE, Nat.reduceLT], fun e he => absurd he (Nat.not_lt_zero _), rfl⟩
                  simp (maxDischargeDepth := 30) only [hhome, amL, args0, Nat.reduceEqDiff, reduceCtorEq, ↓reduceIte, Nat.reduceAdd, resultsA, results1, Int.reduceNeg, splice, Nat.reduceLeDiff, part, fillA, fillE, Nat.reduceLT]
                  rw [Nat.mod_eq_of_lt hhk]
              · have := hbad (fun ho => hrf (ho.2.2 hst).2.1)
                simp (maxDischargeDepth := 30) only [aft_mk, hrf, this, amL, args0, Nat.reduceEqDiff, reduceCtorEq, ↓reduceIte, Nat.reduceAdd, resultsA, results1, Int.reduceNeg, splice, Nat.reduceLeDiff, part, fillA, fillE, Nat.reduceLT]
                exact (hgm.trans hg).app.trans hg2
          · by_cases hz : s.key = 0 ∧ s.val = 0
            · obtain ⟨z1, z2⟩ := hz
              have c00 : ¬ ¬ (0 : Int) = 0 := by omega
              simp (maxDischargeDepth := 30) only [h, f1, f3, f30, f31, f32, ix, ld, hst, b3, z1, z2, c00, w1, amL, args0, Nat.reduceEqDiff, reduceCtorEq, ↓reduceIte, Nat.reduceAdd, resultsA, results1, Int.reduceNeg, splice, Nat.reduceLeDiff, part, fillA, fillE, Nat.reduceLT]
              refine fin _ ?_ ?_ ?_ ?_ ?_ ⟨by omega, fun _ => ⟨z1, z2⟩, fun hx => absurd hx hst⟩ _ hg.app
              all_goals simp (maxDischargeDepth := 30) only [f1, f3, f30, f31, f32, amL, args0, Nat.reduceEqDiff, reduceCtorEq, ↓reduceIte, Nat.reduceAdd, resultsA, results1, Int.reduceNeg, splice, Nat.reduceLeDiff, part, fillA, fillE, Nat.reduceLT]
            · have := hbad (fun ho => hz (ho.2.1 hst))
              by_cases z1 : s.key = 0
              · have z2 : ¬ s.val = 0 := fun e => hz ⟨z1, e⟩
                have c00 : ¬ ¬ (0 : Int) = 0 := by omega
                simp (maxDischargeDepth := 30) only [h, f1, f3, f30, f31, f32, ix, ld, hst, b3, z1, z2, c00, this, amL, args0, Nat.reduceEqDiff, reduceCtorEq, ↓reduceIte, Nat.reduceAdd, resultsA, results1, Int.reduceNeg, splice, Nat.reduceLeDiff, part, fillA, fillE, Nat.reduceLT]
                exact (hgm.trans hg).app
              · simp (maxDischargeDepth := 30) only [h, f1, f3, f30, f31, f32, ix, ld, hst, b3, z1, this, amL, args0, Nat.reduceEqDiff, reduceCtorEq, ↓reduceIte, Nat.reduceAdd, resultsA, results1, Int.reduceNeg, splice, Nat.reduceLeDiff, part, fillA, fillE, Nat.reduceLT]
                exact (hgm.trans hg).app
        · have : i = l.length := by omega
          subst this
          have hvv : validB l = true := hvalid.2 fun j s hj => hok j s (List.getElem?_eq_some_iff.1 hj).1 hj
          simp (maxDischargeDepth := 30) only [h, f1, f3, f30, f31, f32, hvv, amL, args0, Nat.reduceEqDiff, reduceCtorEq, ↓reduceIte, Nat.reduceAdd, resultsA, results1, Int.reduceNeg, splice, Nat.reduceLeDiff, part, fillA, fillE, Nat.reduceLT]
          exact hgm.trans hg
      · exact ⟨0, by omega, rfl, by simp (maxDischargeDepth := 30) only [amL, args0, Nat.reduceEqDiff, reduceCtorEq, ↓reduceIte, Nat.reduceAdd, resultsA, results1, Int.reduceNeg, splice, Nat.reduceLeDiff, part, fillA, fillE, Nat.reduceLT], by simp (maxDischargeDepth := 30) only [amL, args0, Nat.reduceEqDiff, reduceCtorEq, ↓reduceIte, Nat.reduceAdd, resultsA, results1, Int.reduceNeg, splice, Nat.reduceLeDiff, part, fillA, fillE, Nat.reduceLT], by simp (maxDischargeDepth := 30) only [amL, args0, Nat.reduceEqDiff, reduceCtorEq, ↓reduceIte, Nat.reduceAdd, resultsA, results1, Int.reduceNeg, splice, Nat.reduceLeDiff, part, fillA, fillE, Nat.reduceLT], by simp (maxDischargeDepth := 30) only [amL, args0, Nat.reduceEqDiff, reduceCtorEq, ↓reduceIte, Nat.reduceAdd, resultsA, results1, Int.reduceNeg, splice, Nat.reduceLeDiff, part, fillA, fillE, Nat.reduceLT], by simp (maxDischargeDepth := 30) only [amL, args0, Nat.reduceEqDiff, reduceCtorEq, ↓reduceIte, Nat.reduceAdd, resultsA, results1, Int.reduceNeg, splice, Nat.reduceLeDiff, part, fillA, fillE, Nat.reduceLT]; rfl, fun j s hj => absurd hj (Nat.not_lt_zero _), Grow.refl _⟩
    · have c4 : 4 * (cnt 0 l : Int) < l.length := by omega
      have : (if validB l = true then (0 : Int) else 2) = 2 := by
        rw [if_neg]
        rw [refValid_iff]
        rintro (h | h)
        · exact h00 h
        · exact h4 h.2.1
      simp (maxDischargeDepth := 30) only [c4, this, amL, args0, Nat.reduceEqDiff, reduceCtorEq, ↓reduceIte, Nat.reduceAdd, resultsA, results1, Int.reduceNeg, splice, Nat.reduceLeDiff, part, fillA, fillE, Nat.reduceLT]
      exact hgm
  · have c1 : ¬ (1 : Int) = 0 := by omega
    have : (if validB l = true then (0 : Int) else 2) = 2 := by
      rw [if_neg]
      rw [refValid_iff]
      rintro (h | h)
      · exact h00 h
      · exact hpow h.1
    simp (maxDischargeDepth := 30) only [aft_mk, hpow, c1, this, amL, args0, Nat.reduceEqDiff, reduceCtorEq, ↓reduceIte, Nat.reduceAdd, resultsA, results1, Int.reduceNeg, splice, Nat.reduceLeDiff, part, fillA, fillE, Nat.reduceLT]
    exact (Grow.refl _).app
end Go.AM.G

set_option maxRecDepth 100000
namespace Go.AM.G
open Go Go.AM
def K3 (l : List Slot) : Prop := ∀ s ∈ l, s.st = 0 ∨ s.st = 1 ∨ s.st = 2
theorem K3.sl {l : List Slot} (h : K3 l) {a d : Nat} (hn : 0 < l.length) : (sl l a d).st = 0 ∨ (sl l a d).st = 1 ∨ (sl l a d).st = 2 := h _ (List.mem_of_getElem? (sl_get hn))
/-- the first slot that is not used, from a key's home on. -/
def First (l : List Slot) (h p : Nat) : Prop := p < l.length ∧ (∀ e, e < p → (sl l h e).st = 1) ∧ (sl l h p).st ≠ 1
theorem findF_first {l : List Slot} {k : Int} {h : Nat} (hn : 0 < l.length) (h3 : K3 l) : ∀ {f a : Nat} {g : Option Nat}, a + f = l.length → Q l k h a → (g = none → ∀ e, e < a → (sl l h e).st = 1) → (∀ y, g = some y → ∃ p, p < a ∧ y = (h + p) % l.length ∧ (∀ e, e < p → (sl l h e).st = 1) ∧ (sl l h p).st ≠ 1) →
    (findF l k f ((h + a) % l.length) g).2 = false → Q l k h l.length ∨ ∃ p, (findF l k f ((h + a) % l.length) g).1 = (h + p) % l.length ∧ First l h p
  | 0, a, g, ha, hq, h1, h2 => by
    intro _
    refine .inl ?_
    rw [← ha]
    exact hq
  | f + 1, a, g, ha, hq, h1, h2 => by
    have hs := sl_get (h := h) (d := a) hn
    simp only [findF, hs]
    by_cases h0 : (sl l h a).st = 0
    · rw [if_pos h0]
      intro _
      refine .inr ?_
      cases g with
      | none => exact ⟨a, rfl, by omega, h1 rfl, by omega⟩
      | some y =>
        obtain ⟨p, p1, p2, p3, p4⟩ := h2 y rfl
        exact ⟨p, p2, by omega, p3, p4⟩
    rw [if_neg h0]
    by_cases hk : (sl l h a).st = 1 ∧ (sl l h a).key = k
    · rw [if_pos hk]
      intro h; simp at h
    rw [if_neg hk]
    have e : ((h + a) % l.length + 1) % l.length = (h + (a + 1)) % l.length := by rw [Nat.mod_add_mod]; rfl
    rw [e]
    refine findF_first hn h3 (by omega) ?_ ?_ ?_
    · intro x hx
      by_cases hxa : x = a
      · subst hxa; exact ⟨h0, hk⟩
      · exact hq x (by omega)
    · intro hg
      split at hg
      · cases hg
      · rename_i hc
        intro x hx
        by_cases hxa : x = a
        · subst hxa
          rcases h3.sl (a := h) (d := x) hn with h | h | h
          · exact absurd h h0
          · exact h
          · exact absurd ⟨h, hg⟩ hc
        · exact h1 hg x (by omega)
    · intro y hy
      split at hy
      · rename_i hc
        cases hy
        exact ⟨a, by omega, rfl, h1 hc.2, by omega⟩
      · obtain ⟨p, p1, p2⟩ := h2 y hy
        exact ⟨p, by omega, p2⟩
theorem find_first {l : List Slot} {k : Int} (hp : Pow l.length) (h0 : 0 < cnt 0 l) (h3 : K3 l) (h : (findL l k).2 = false) : ∃ p, (findL l k).1 = (hk l k + p) % l.length ∧ First l (hk l k) p := by
  have hle := hp.le
  rw [findL_eq hp] at h ⊢
  exact (findF_first (by omega) h3 (by omega) (fun e he => absurd he (Nat.not_lt_zero _)) (fun _ e he => absurd he (Nat.not_lt_zero _)) (by simp) h).resolve_left (no_free (hk_lt hp) h0)
theorem K3.set {l : List Slot} (h : K3 l) {i : Nat} {x : Slot} (hx : x.st = 0 ∨ x.st = 1 ∨ x.st = 2) : K3 (l.set i x) := by
  intro s hs
  rcases List.mem_or_eq_of_mem_set hs with h1 | rfl
  · exact h s h1
  · exact hx
theorem K3.lay {l : List Slot} (h : K3 l) {k v : Int} : K3 (layL l k v) := h.set (.inr (.inl rfl))
theorem K3_valid {l : List Slot} (h : validB l = true) (h0 : ∀ s ∈ l, 0 ≤ s.st) : K3 l := by
  intro s hs
  obtain ⟨j, hj⟩ := List.getElem?_of_mem hs
  have h1 := h0 s hs
  rcases valid_iff.1 h with h2 | ⟨h2, _⟩
  · have := (List.getElem?_eq_some_iff.1 hj).1; omega
  · have := h2.ok j s hj
    simp only [okS, Bool.and_eq_true, decide_eq_true_eq] at this
    omega
theorem refLay_spec {m : Mem} {b cap : Nat} {ex : Bool} {l : List Slot} (key val : Int) {p : Nat} (hb : m[b]? = some (.cells true (encs l))) (hpow : Pow l.length) (hp : First l (hk l key) p) :
    C S n_ref10_lay [.agg [.slice b 0 l.length cap ex 3], .int .u64 key, .int .u64 val] m (fun r m' => r = .agg [.slice b 0 l.length cap ex 3] ∧ Grow (m.set b (.cells true (encs (l.set ((hk l key + p) % l.length) ⟨1, key, val⟩)))) m') := by
  have hlen : (encs l).length = l.length := by simp
  have hv : Sl m (.slice b 0 l.length cap ex 3) 3 (encs l) := by rw [← hlen]; exact Sl.mk hb
  have hple := hpow.le
  have hbl := (List.getElem?_eq_some_iff.1 hb).1
  refine C_body rfl rfl rfl ?_
  unfold ref10_lay
  simp (maxDischargeDepth := 30) only [amL, args0, Nat.reduceEqDiff, reduceCtorEq, ↓reduceIte, Nat.reduceAdd, resultsA, results1, Int.reduceNeg, splice, Nat.reduceLeDiff, part, fillA, fillE, Nat.reduceLT]
  refine (refHome_spec key l.length).mono ?_
  rintro _ _ ⟨rfl, rfl⟩
  have hhk := hk_lt (k := key) hpow
  have hhome : homeI key l.length = ((hk l key : Nat) : Int) := by
    have := (home_range (key := key) hpow).1
    unfold hk
    omega
  have c14 : ¬ (l.length : Int) = 0 := by omega
  simp (maxDischargeDepth := 30) only [aft_mk, hpow, hhome, amL, args0, Nat.reduceEqDiff, reduceCtorEq, ↓reduceIte, Nat.reduceAdd, resultsA, results1, Int.reduceNeg, splice, Nat.reduceLeDiff, part, fillA, fillE, Nat.reduceLT]
  generalize hM : m ++ [Blk.cells true [[V.slice b 0 l.length cap ex 3]]] ++ [Blk.cells true [[V.nils]]] = M0
  have hT : M0[m.length]? = some (.cells true [[V.slice b 0 l.length cap ex 3]]) := by rw [← hM]; exact getElem?_grow (by simp)
  have hR : M0[m.length + 1]? = some (.cells true [[V.nils]]) := by
    rw [← hM, List.getElem?_append_right (by simp)]; simp
  have hb0 : M0[b]? = some (.cells true (encs l)) := by rw [← hM]; exact getElem?_grow (getElem?_grow hb)
  have hv0 : Sl M0 (.slice b 0 l.length cap ex 3) 3 (encs l) := by rw [← hM]; exact hv.app.app
  have hRl : (m ++ [Blk.cells true [[V.slice b 0 l.length cap ex 3]]]).length = m.length + 1 := by simp
  let J := fun (k : Nat) (fr : Frame) (M : Mem) => ∃ d : Nat, d ≤ p ∧ k = p - d ∧ fr 1 = .int .u64 key ∧ fr 2 = .int .u64 val ∧ fr 3 = .ptr m.length 0 0 ∧ fr 6 = .ptr (m.length + 1) 0 0 ∧ fr 7 = .int .i64 l.length ∧ fr 8 = .int .i64 ((hk l key + d) % l.length : Nat) ∧ M = M0
  refine W_loop J ?_ p ?_
  · rintro k fr M ⟨d, hd, rfl, f1, f2, f3, f6, f7, f8, rfl⟩
    unfold ref10_lay_l0
    have hml : (hk l key + d) % l.length < l.length := Nat.mod_lt _ (by omega)
    have hgd := sl_get (l := l) (h := hk l key) (d := d) (by omega)
    have ix := hv0.index (ki := .i64) (n := (((hk l key + d) % l.length : Nat) : Int)) (by omega) (by omega)
    have ld := fun o k => hv0.load (o := o) (k := k) (encs_get hgd)
    simp only [Int.toNat_natCast, enc] at ix ld
    by_cases hdp : d = p
    · subst hdp
      have hst := hp.2.2
      have st := store_own (n := 3) (len := l.length) (cap := cap) (z := 3) (ex := ex) (x := .agg [.int .u8 1, .int .u64 key, .int .u64 val]) hb0 (encs_get hgd) rfl rfl rfl
      have e : (encs l).set ((hk l key + d) % l.length) [.int .u8 1, .int .u64 key, .int .u64 val] = encs (l.set ((hk l key + d) % l.length) ⟨1, key, val⟩) := by simp [List.map_set, enc]
      simp only [cells_agg, e] at st
      have hne := enc_ne hT hb0
      have hneR := enc_ne hR hb0
      have hT1 : (M.set b (.cells true (encs (l.set ((hk l key + d) % l.length) ⟨1, key, val⟩))))[m.length]? = some (.cells true [[V.slice b 0 l.length cap ex 3]]) := by rw [List.getElem?_set_ne hne]; exact hT
      have hR1 : (M.set b (.cells true (encs (l.set ((hk l key + d) % l.length) ⟨1, key, val⟩))))[m.length + 1]? = some (.cells true [[V.nils]]) := by rw [List.getElem?_set_ne hneR]; exact hR
      have s1 := store_at0 (x := .agg [V.slice b 0 l.length cap ex 3]) (j := 0) (n := 1) hR1 rfl (by simp) rfl
      have hRl1 := (List.getElem?_eq_some_iff.1 hR1).1
      have l2 := fun k => load_set0 (M := M.set b (.cells true (encs (l.set ((hk l key + d) % l.length) ⟨1, key, val⟩)))) (b := m.length + 1) (own := true) (el := [V.slice b 0 l.length cap ex 3]) (k := k) (j := 0) hRl1
      simp only [cells_agg, splice, List.take_zero, List.nil_append, List.cons_append, List.length_cons, List.length_nil, Nat.zero_add, List.drop_succ_cons, List.drop_nil] at s1
      simp (maxDischargeDepth := 30) only [f1, f2, f3, f6, f7, f8, load_at0 hT, ix, ld, hst, st, load_at0 hT1, s1, l2, amL, args0, Nat.reduceEqDiff, reduceCtorEq, ↓reduceIte, Nat.reduceAdd, resultsA, results1, Int.reduceNeg, splice, Nat.reduceLeDiff, part, fillA, fillE, Nat.reduceLT]
      have hgr : Grow (m.set b (.cells true (encs (l.set ((hk l key + d) % l.length) ⟨1, key, val⟩)))) (M.set b (.cells true (encs (l.set ((hk l key + d) % l.length) ⟨1, key, val⟩)))) := by
        rw [← hM, List.set_append_left _ _ (by simp; omega), List.set_append_left _ _ hbl]
        exact (Grow.refl _).app.app
      exact hgr.set (by simp) _
    · have hst := hp.2.1 d (by omega)
      have w5 : IntKind.i64.wrap ((((hk l key + d) % l.length : Nat) : Int) + 1) = (((hk l key + d) % l.length + 1 : Nat) : Int) := by rw [wrap_i64] <;> omega
      have w6 : (((hk l key + d) % l.length + 1 : Nat) : Int).tmod l.length = (((hk l key + (d + 1)) % l.length : Nat) : Int) := by
        rw [Int.tmod_eq_emod_of_nonneg (by omega), ← Int.natCast_emod, Nat.mod_add_mod]
        rfl
      simp (maxDischargeDepth := 30) only [f1, f2, f3, f6, f7, f8, load_at0 hT, ix, ld, hst, c14, w5, w6, amL, args0, Nat.reduceEqDiff, reduceCtorEq, ↓reduceIte, Nat.reduceAdd, resultsA, results1, Int.reduceNeg, splice, Nat.reduceLeDiff, part, fillA, fillE, Nat.reduceLT]
      refine ⟨_, ?_, d + 1, by omega, rfl, ?_, ?_, ?_, ?_, ?_, ?_, rfl⟩
      · omega
      all_goals simp (maxDischargeDepth := 30) only [f1, f2, f3, f6, f7, amL, args0, Nat.reduceEqDiff, reduceCtorEq, ↓reduceIte, Nat.reduceAdd, resultsA, results1, Int.reduceNeg, splice, Nat.reduceLeDiff, part, fillA, fillE, Nat.reduceLT]
  · refine ⟨0, Nat.zero_le _, rfl, by simp (maxDischargeDepth := 30) only [amL, args0, Nat.reduceEqDiff, reduceCtorEq, ↓reduceIte, Nat.reduceAdd, resultsA, results1, Int.reduceNeg, splice, Nat.reduceLeDiff, part, fillA, fillE, Nat.reduceLT], by simp (maxDischargeDepth := 30) only [amL, args0, Nat.reduceEqDiff, reduceCtorEq, ↓reduceIte, Nat.reduceAdd, resultsA, results1, Int.reduceNeg, splice, Nat.reduceLeDiff, part, fillA, fillE, Nat.reduceLT], by simp (maxDischargeDepth := 30) only [amL, args0, Nat.reduceEqDiff, reduceCtorEq, ↓reduceIte, Nat.reduceAdd, resultsA, results1, Int.reduceNeg, splice, Nat.reduceLeDiff, part, fillA, fillE, Nat.reduceLT], by simp (maxDischargeDepth := 30) only [hRl, amL, args0, Nat.reduceEqDiff, reduceCtorEq, ↓reduceIte, Nat.reduceAdd, resultsA, results1, Int.reduceNeg, splice, Nat.reduceLeDiff, part, fillA, fillE, Nat.reduceLT], by simp (maxDischargeDepth := 30) only [amL, args0, Nat.reduceEqDiff, reduceCtorEq, ↓reduceIte, Nat.reduceAdd, resultsA, results1, Int.reduceNeg, splice, Nat.reduceLeDiff, part, fillA, fillE, Nat.reduceLT], ?_, rfl⟩
    simp (maxDischargeDepth := 30) only [amL, args0, Nat.reduceEqDiff, reduceCtorEq, ↓reduceIte, Nat.reduceAdd, resultsA, results1, Int.reduceNeg, splice, Nat.reduceLeDiff, part, fillA, fillE, Nat.reduceLT]
    rw [Nat.mod_eq_of_lt hhk]
end Go.AM.G
