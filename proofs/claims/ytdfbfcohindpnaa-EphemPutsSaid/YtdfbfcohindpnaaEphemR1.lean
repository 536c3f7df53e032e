/- Part of the proof: contracts of functions of the given program on an abstract machine. -/
import Derived.Test.YtdfbfcohindpnaaEphemM
set_option linter.unusedVariables false
set_option linter.unusedSimpArgs false
set_option maxRecDepth 100000
namespace Go.AM.G
open Go Go.AM
theorem refHome_spec {m : Mem} (key n : Int) : C S n_ref10_Home [.int .u64 key, .int .i64 n] m (fun r m' => r = .tup [.int .i64 (if Pow n then homeI key n else 0), .int .i64 (if Pow n then 0 else 1)] ∧ m = m') := by
  have h0 : ∀ x : Int, 0 ≤ IntKind.u64.wrap x ∧ IntKind.u64.wrap x < 18446744073709551616 := fun x => by rw [IntKind.wrap_u64]; omega
  obtain ⟨a, b⟩ := h0 (key * 11400714819323198485)
  have q : ∀ d : Int, 0 < d → IntKind.u64.wrap ((IntKind.u64.wrap (key * 11400714819323198485)).tdiv d) = (IntKind.u64.wrap (key * 11400714819323198485)).fdiv d := fun d hd => by
    rw [Int.tdiv_eq_ediv_of_nonneg a, Int.fdiv_eq_ediv_of_nonneg _ (by omega)]
    have h1 := Int.ediv_nonneg a (by omega : (0 : Int) ≤ d)
    have h2 : (IntKind.u64.wrap (key * 11400714819323198485)) / d ≤ IntKind.u64.wrap (key * 11400714819323198485) := Int.ediv_le_self _ a
    rw [wrap_u64] <;> omega
  refine C_body rfl rfl rfl ?_
  unfold ref10_Home
  by_cases h8 : n = 8
  · subst h8
    have hp : Pow 8 := by decide
    have e : homeI key 8 = IntKind.i64.wrap ((IntKind.u64.wrap (key * 11400714819323198485)).fdiv 2305843009213693952) := rfl
    have c : ¬ (2305843009213693952 : Int) = 0 := by decide
    simp (maxDischargeDepth := 30) only [hp, e, q 2305843009213693952 (by decide), c, amL, args0, Nat.reduceEqDiff, reduceCtorEq, ↓reduceIte, Nat.reduceAdd, resultsA, results1, Int.reduceNeg, splice, Nat.reduceLeDiff, part, fillA, fillE, Nat.reduceLT]
  by_cases h16 : n = 16
  · subst h16
    have hp : Pow 16 := by decide
    have e : homeI key 16 = IntKind.i64.wrap ((IntKind.u64.wrap (key * 11400714819323198485)).fdiv 1152921504606846976) := rfl
    have c : ¬ (1152921504606846976 : Int) = 0 := by decide
    simp (maxDischargeDepth := 30) only [hp, h8, e, q 1152921504606846976 (by decide), c, amL, args0, Nat.reduceEqDiff, reduceCtorEq, ↓reduceIte, Nat.reduceAdd, resultsA, results1, Int.reduceNeg, splice, Nat.reduceLeDiff, part, fillA, fillE, Nat.reduceLT]
  by_cases h32 : n = 32
  · subst h32
    have hp : Pow 32 := by decide
    have e : homeI key 32 = IntKind.i64.wrap ((IntKind.u64.wrap (key * 11400714819323198485)).fdiv 576460752303423488) := rfl
    have c : ¬ (576460752303423488 : Int) = 0 := by decide
    simp (maxDischargeDepth := 30) only [hp, h8, h16, e, q 576460752303423488 (by decide), c, amL, args0, Nat.reduceEqDiff, reduceCtorEq, ↓reduceIte, Nat.reduceAdd, resultsA, results1, Int.reduceNeg, splice, Nat.reduceLeDiff, part, fillA, fillE, Nat.reduceLT]
  by_cases h64 : n = 64
  · subst h64
    have hp : Pow 64 := by decide
    have e : homeI key 64 = IntKind.i64.wrap ((IntKind.u64.wrap (key * 11400714819323198485)).fdiv 288230376151711744) := rfl
    have c : ¬ (288230376151711744 : Int) = 0 := by decide
    simp (maxDischargeDepth := 30) only [hp, h8, h16, h32, e, q 288230376151711744 (by decide), c, amL, args0, Nat.reduceEqDiff, reduceCtorEq, ↓reduceIte, Nat.reduceAdd, resultsA, results1, Int.reduceNeg, splice, Nat.reduceLeDiff, part, fillA, fillE, Nat.reduceLT]
  have hp : ¬ Pow n := by unfold Pow; omega
  simp (maxDischargeDepth := 30) only [hp, h8, h16, h32, h64, amL, args0, Nat.reduceEqDiff, reduceCtorEq, ↓reduceIte, Nat.reduceAdd, resultsA, results1, Int.reduceNeg, splice, Nat.reduceLeDiff, part, fillA, fillE, Nat.reduceLT]
theorem refMany_spec {m : Mem} {v : V} {l : List Slot} (st : Int) (hv : Sl m v 3 (encs l)) (hl : l.length < 2 ^ 62) : C S n_ref10_many [.agg [v], .int .u8 st] m (fun v m' => v = .int .i64 (cnt st l) ∧ Grow m m') := by
  refine C_body rfl rfl rfl ?_
  unfold ref10_many
  have hcell := hv.cell
  have hlen : (encs l).length = l.length := by simp
  simp (maxDischargeDepth := 30) only [hcell, hv.len, amL, args0, Nat.reduceEqDiff, reduceCtorEq, ↓reduceIte, Nat.reduceAdd, resultsA, results1, Int.reduceNeg, splice, Nat.reduceLeDiff, part, fillA, fillE, Nat.reduceLT]
  let I := fun (k : Nat) (fr : Frame) (M : Mem) => ∃ i : Nat, i ≤ l.length ∧ k = l.length - i ∧ fr 1 = .int .u8 st ∧ fr 9 = v ∧ fr 10 = .int .i64 l.length ∧ fr 11 = .int .i64 i ∧ fr 5 = .int .i64 (cnt st (l.take i)) ∧ Grow m M
  refine W_loop I ?_ l.length ?_
  · rintro k fr M ⟨i, hi, rfl, h1, h12, h13, h14, h5, hg⟩
    unfold ref10_many_l0
    simp (maxDischargeDepth := 30) only [h1, h12, h13, h14, h5, amL, args0, Nat.reduceEqDiff, reduceCtorEq, ↓reduceIte, Nat.reduceAdd, resultsA, results1, Int.reduceNeg, splice, Nat.reduceLeDiff, part, fillA, fillE, Nat.reduceLT]
    first | (refine O_split (by simp only [put_apply, Nat.reduceEqDiff, ↓reduceIte, reduceCtorEq]; rfl) (fun h => ?_) (fun h => ?_) <;> simp only [decide_eq_true_eq, decide_eq_false_iff_not, Decidable.not_not, Bool.and_eq_true, Bool.not_eq_true', Bool.not_eq_false'] at h) | (refine W_split (by simp only [get_t, put_apply, Nat.reduceEqDiff, ↓reduceIte, reduceCtorEq]; rfl) (fun h => ?_) (fun h => ?_) <;> simp only [decide_eq_true_eq, decide_eq_false_iff_not, Decidable.not_not, Bool.and_eq_true, Bool.not_eq_true', Bool.not_eq_false'] at h)
    · have hil : i < l.length := by omega
      obtain ⟨s, hs⟩ : ∃ s, l[i]? = some s := ⟨_, List.getElem?_eq_getElem hil⟩
      have hcs := cnt_succ (st := st) hs
      have hcl := cnt_le st (l.take i)
      have hsl := hv.grow hg
      rw [List.length_take] at hcl
      have w1 : IntKind.i64.wrap ((i : Int) + 1) = ((i + 1 : Nat) : Int) := by rw [wrap_i64] <;> omega
      have w2 : IntKind.i64.wrap ((cnt st (l.take i) : Int) + 1) = ((cnt st (l.take i) + 1 : Nat) : Int) := by rw [wrap_i64] <;> omega
      simp (maxDischargeDepth := 30) only [h, h1, h12, h13, h14, h5, hsl.index (ki := .i64) (n := i) (by omega) (by omega), hsl.load (encs_get hs), enc, amL, args0, Nat.reduceEqDiff, reduceCtorEq, ↓reduceIte, Nat.reduceAdd, resultsA, results1, Int.reduceNeg, splice, Nat.reduceLeDiff, part, fillA, fillE, Nat.reduceLT]
      first | (refine O_split (by simp only [put_apply, Nat.reduceEqDiff, ↓reduceIte, reduceCtorEq]; rfl) (fun h' => ?_) (fun h' => ?_) <;> simp only [decide_eq_true_eq, decide_eq_false_iff_not, Decidable.not_not, Bool.and_eq_true, Bool.not_eq_true', Bool.not_eq_false'] at h') | (refine W_split (by simp only [get_t, put_apply, Nat.reduceEqDiff, ↓reduceIte, reduceCtorEq]; rfl) (fun h' => ?_) (fun h' => ?_) <;> simp only [decide_eq_true_eq, decide_eq_false_iff_not, Decidable.not_not, Bool.and_eq_true, Bool.not_eq_true', Bool.not_eq_false'] at h')
      · simp (maxDischargeDepth := 30) only [h1, h12, h13, h14, h5, w1, w2, amL, args0, Nat.reduceEqDiff, reduceCtorEq, ↓reduceIte, Nat.reduceAdd, resultsA, results1, Int.reduceNeg, splice, Nat.reduceLeDiff, part, fillA, fillE, Nat.reduceLT]
        refine ⟨_, ?_, i + 1, by omega, rfl, ?_, ?_, ?_, ?_, ?_, hg.app⟩
        · omega
        all_goals simp (maxDischargeDepth := 30) only [h1, h12, h13, h14, h5, amL, args0, Nat.reduceEqDiff, reduceCtorEq, ↓reduceIte, Nat.reduceAdd, resultsA, results1, Int.reduceNeg, splice, Nat.reduceLeDiff, part, fillA, fillE, Nat.reduceLT]
        rw [hcs, if_pos h']
      · simp (maxDischargeDepth := 30) only [h1, h12, h13, h14, h5, w1, w2, amL, args0, Nat.reduceEqDiff, reduceCtorEq, ↓reduceIte, Nat.reduceAdd, resultsA, results1, Int.reduceNeg, splice, Nat.reduceLeDiff, part, fillA, fillE, Nat.reduceLT]
        refine ⟨_, ?_, i + 1, by omega, rfl, ?_, ?_, ?_, ?_, ?_, hg.app⟩
        · omega
        all_goals simp (maxDischargeDepth := 30) only [h1, h12, h13, h14, h5, amL, args0, Nat.reduceEqDiff, reduceCtorEq, ↓reduceIte, Nat.reduceAdd, resultsA, results1, Int.reduceNeg, splice, Nat.reduceLeDiff, part, fillA, fillE, Nat.reduceLT]
        rw [hcs, if_neg h']
        rfl
    · simp (maxDischargeDepth := 30) only [h, h1, h12, h13, h14, h5, amL, args0, Nat.reduceEqDiff, reduceCtorEq, ↓reduceIte, Nat.reduceAdd, resultsA, results1, Int.reduceNeg, splice, Nat.reduceLeDiff, part, fillA, fillE, Nat.reduceLT]
      have : l.take i = l := List.take_of_length_le (by omega)
      rw [this]
      exact ⟨rfl, hg⟩
  · exact ⟨0, by omega, rfl, by simp (maxDischargeDepth := 30) only [amL, args0, Nat.reduceEqDiff, reduceCtorEq, ↓reduceIte, Nat.reduceAdd, resultsA, results1, Int.reduceNeg, splice, Nat.reduceLeDiff, part, fillA, fillE, Nat.reduceLT], by simp (maxDischargeDepth := 30) only [amL, args0, Nat.reduceEqDiff, reduceCtorEq, ↓reduceIte, Nat.reduceAdd, resultsA, results1, Int.reduceNeg, splice, Nat.reduceLeDiff, part, fillA, fillE, Nat.reduceLT], by simp (maxDischargeDepth := 30) only [hlen, amL, args0, Nat.reduceEqDiff, reduceCtorEq, ↓reduceIte, Nat.reduceAdd, resultsA, results1, Int.reduceNeg, splice, Nat.reduceLeDiff, part, fillA, fillE, Nat.reduceLT], by simp (maxDischargeDepth := 30) only [amL, args0, Nat.reduceEqDiff, reduceCtorEq, ↓reduceIte, Nat.reduceAdd, resultsA, results1, Int.reduceNeg, splice, Nat.reduceLeDiff, part, fillA, fillE, Nat.reduceLT]; rfl, by simp (maxDischargeDepth := 30) only [amL, args0, Nat.reduceEqDiff, reduceCtorEq, ↓reduceIte, Nat.reduceAdd, resultsA, results1, Int.reduceNeg, splice, Nat.reduceLeDiff, part, fillA, fillE, Nat.reduceLT]; rfl, (Grow.refl _).app⟩
/-- where a key is first. -/
def rf (key : Int) : List Slot → Nat → Int
  | [], _ => -1
  | s :: r, i => if s.st = 1 ∧ s.key = key then (i : Int) else rf key r (i + 1)
theorem rf_drop {key : Int} {l : List Slot} {i : Nat} {s : Slot} (h : l[i]? = some s) : rf key (l.drop i) i = if s.st = 1 ∧ s.key = key then (i : Int) else rf key (l.drop (i + 1)) (i + 1) := by
  obtain ⟨hi, e⟩ := List.getElem?_eq_some_iff.1 h
  rw [List.drop_eq_getElem_cons hi, e]
  rfl
theorem refFind_spec {m : Mem} {v : V} {l : List Slot} (key : Int) (hv : Sl m v 3 (encs l)) (hl : l.length < 2 ^ 62) : C S n_ref10_find [.agg [v], .int .u64 key] m (fun v m' => v = .int .i64 (rf key l 0) ∧ Grow m m') := by
  refine C_body rfl rfl rfl ?_
  unfold ref10_find
  have hcell := hv.cell
  have hlen : (encs l).length = l.length := by simp
  simp (maxDischargeDepth := 30) only [hcell, hv.len, amL, args0, Nat.reduceEqDiff, reduceCtorEq, ↓reduceIte, Nat.reduceAdd, resultsA, results1, Int.reduceNeg, splice, Nat.reduceLeDiff, part, fillA, fillE, Nat.reduceLT]
  let I := fun (k : Nat) (fr : Frame) (M : Mem) => ∃ i : Nat, i ≤ l.length ∧ k = l.length - i ∧ fr 1 = .int .u64 key ∧ fr 8 = v ∧ fr 9 = .int .i64 l.length ∧ fr 10 = .int .i64 i ∧ rf key (l.drop i) i = rf key l 0 ∧ Grow m M
  refine W_loop I ?_ l.length ?_
  · rintro k fr M ⟨i, hi, rfl, h1, h12, h13, h14, h5, hg⟩
    unfold ref10_find_l0
    simp (maxDischargeDepth := 30) only [h1, h12, h13, h14, amL, args0, Nat.reduceEqDiff, reduceCtorEq, ↓reduceIte, Nat.reduceAdd, resultsA, results1, Int.reduceNeg, splice, Nat.reduceLeDiff, part, fillA, fillE, Nat.reduceLT]
    first | (refine O_split (by simp only [put_apply, Nat.reduceEqDiff, ↓reduceIte, reduceCtorEq]; rfl) (fun h => ?_) (fun h => ?_) <;> simp only [decide_eq_true_eq, decide_eq_false_iff_not, Decidable.not_not, Bool.and_eq_true, Bool.not_eq_true', Bool.not_eq_false'] at h) | (refine W_split (by simp only [get_t, put_apply, Nat.reduceEqDiff, ↓reduceIte, reduceCtorEq]; rfl) (fun h => ?_) (fun h => ?_) <;> simp only [decide_eq_true_eq, decide_eq_false_iff_not, Decidable.not_not, Bool.and_eq_true, Bool.not_eq_true', Bool.not_eq_false'] at h)
    · have hil : i < l.length := by omega
      obtain ⟨s, hs⟩ : ∃ s, l[i]? = some s := ⟨_, List.getElem?_eq_getElem hil⟩
      have hsl := hv.grow hg
      rw [rf_drop hs] at h5
      have w1 : IntKind.i64.wrap ((i : Int) + 1) = ((i + 1 : Nat) : Int) := by rw [wrap_i64] <;> omega
      have fin : ∀ fr' : Frame, fr' 1 = .int .u64 key → fr' 8 = v → fr' 9 = .int .i64 l.length → fr' 10 = .int .i64 (i + 1 : Nat) → rf key (l.drop (i + 1)) (i + 1) = rf key l 0 → ∀ M' : Mem, Grow m M' → ∃ j, j < l.length - i ∧ I j fr' M' := fun fr' a1 a2 a3 a4 a5 M' a6 => ⟨l.length - (i + 1), by omega, i + 1, by omega, rfl, a1, a2, a3, a4, a5, a6⟩
      by_cases hst : s.st = 1
      · by_cases hk : s.key = key
        · rw [if_pos ⟨hst, hk⟩] at h5
          simp (maxDischargeDepth := 30) only [h, h1, h12, h13, h14, hsl.index (ki := .i64) (n := i) (by omega) (by omega), hsl.load (encs_get hs), enc, hst, hk, amL, args0, Nat.reduceEqDiff, reduceCtorEq, ↓reduceIte, Nat.reduceAdd, resultsA, results1, Int.reduceNeg, splice, Nat.reduceLeDiff, part, fillA, fillE, Nat.reduceLT]
          exact ⟨h5, hg.app⟩
        · rw [if_neg (fun e => hk e.2)] at h5
          simp (maxDischargeDepth := 30) only [h, h1, h12, h13, h14, hsl.index (ki := .i64) (n := i) (by omega) (by omega), hsl.load (encs_get hs), enc, hst, hk, w1, amL, args0, Nat.reduceEqDiff, reduceCtorEq, ↓reduceIte, Nat.reduceAdd, resultsA, results1, Int.reduceNeg, splice, Nat.reduceLeDiff, part, fillA, fillE, Nat.reduceLT]
          refine fin _ ?_ ?_ ?_ ?_ h5 _ hg.app
          all_goals simp (maxDischargeDepth := 30) only [h1, h12, h13, h14, amL, args0, Nat.reduceEqDiff, reduceCtorEq, ↓reduceIte, Nat.reduceAdd, resultsA, results1, Int.reduceNeg, splice, Nat.reduceLeDiff, part, fillA, fillE, Nat.reduceLT]
      · rw [if_neg (fun e => hst e.1)] at h5
        simp (maxDischargeDepth := 30) only [h, h1, h12, h13, h14, hsl.index (ki := .i64) (n := i) (by omega) (by omega), hsl.load (encs_get hs), enc, hst, w1, amL, args0, Nat.reduceEqDiff, reduceCtorEq, ↓reduceIte, Nat.reduceAdd, resultsA, results1, Int.reduceNeg, splice, Nat.reduceLeDiff, part, fillA, fillE, Nat.reduceLT]
        refine fin _ ?_ ?_ ?_ ?_ h5 _ hg.app
        all_goals simp (maxDischargeDepth := 30) only [h1, h12, h13, h14, amL, args0, Nat.reduceEqDiff, reduceCtorEq, ↓reduceIte, Nat.reduceAdd, resultsA, results1, Int.reduceNeg, splice, Nat.reduceLeDiff, part, fillA, fillE, Nat.reduceLT]
    · have : i = l.length := by omega
      subst this
      rw [List.drop_length] at h5
      simp (maxDischargeDepth := 30) only [h, h1, h12, h13, h14, amL, args0, Nat.reduceEqDiff, reduceCtorEq, ↓reduceIte, Nat.reduceAdd, resultsA, results1, Int.reduceNeg, splice, Nat.reduceLeDiff, part, fillA, fillE, Nat.reduceLT]
      exact ⟨by rw [← h5]; rfl, hg⟩
  · exact ⟨0, by omega, rfl, by simp (maxDischargeDepth := 30) only [amL, args0, Nat.reduceEqDiff, reduceCtorEq, ↓reduceIte, Nat.reduceAdd, resultsA, results1, Int.reduceNeg, splice, Nat.reduceLeDiff, part, fillA, fillE, Nat.reduceLT], by simp (maxDischargeDepth := 30) only [amL, args0, Nat.reduceEqDiff, reduceCtorEq, ↓reduceIte, Nat.reduceAdd, resultsA, results1, Int.reduceNeg, splice, Nat.reduceLeDiff, part, fillA, fillE, Nat.reduceLT], by simp (maxDischargeDepth := 30) only [hlen, amL, args0, Nat.reduceEqDiff, reduceCtorEq, ↓reduceIte, Nat.reduceAdd, resultsA, results1, Int.reduceNeg, splice, Nat.reduceLeDiff, part, fillA, fillE, Nat.reduceLT], by simp (maxDischargeDepth := 30) only [amL, args0, Nat.reduceEqDiff, reduceCtorEq, ↓reduceIte, Nat.reduceAdd, resultsA, results1, Int.reduceNeg, splice, Nat.reduceLeDiff, part, fillA, fillE, Nat.reduceLT]; rfl, rfl, (Grow.refl _).app⟩
end Go.AM.G
