/- A table: is it right, and where is a key? -/
import Derived.Test.YtkimcedmfnoeoaaGreatDoorHpA
set_option linter.unusedVariables false
set_option linter.unusedSimpArgs false
set_option maxRecDepth 100000
namespace Go.AM.G.E
open Go Go.AM Go.AM.G
def Pow (n : Int) : Prop := n = 8 ∨ n = 16 ∨ n = 32 ∨ n = 64
instance (n : Int) : Decidable (Pow n) := inferInstanceAs (Decidable (_ ∨ _))
theorem pow_and (n : Int) (h : 8 ≤ n) (h' : n ≤ 64) : (IntKind.i64.wrap ↑(BitVec.ofInt IntKind.i64.bits n &&& BitVec.ofInt IntKind.i64.bits (IntKind.i64.wrap (n - 1))).toNat = 0) ↔ Pow n := by
  obtain ⟨k, rfl⟩ : ∃ k : Fin 57, n = 8 + (k : Nat) := ⟨⟨(n - 8).toNat, by omega⟩, by simp; omega⟩
  revert k
  unfold Pow
  decide +kernel
theorem sized_spec (n : Int) (m : Mem) : C S n_ephem_sized [.int .i64 n] m (fun v m' => v = .bool (decide (Pow n)) ∧ m = m') := by
  refine C_body rfl rfl rfl ?_
  unfold ephem_sized
  simp (maxDischargeDepth := 30) only [amL, args0, Nat.reduceEqDiff, reduceCtorEq, ↓reduceIte, Nat.reduceAdd, resultsA, results1, Int.reduceNeg, splice, Nat.reduceLeDiff, part, fillA, fillE, Nat.reduceLT]
  first | (refine O_split (by simp only [put_apply, Nat.reduceEqDiff, ↓reduceIte, reduceCtorEq]; rfl) (fun h => ?_) (fun h => ?_) <;> simp only [decide_eq_true_eq, decide_eq_false_iff_not, Decidable.not_not, Bool.and_eq_true, Bool.not_eq_true', Bool.not_eq_false'] at h) | (refine W_split (by simp only [get_t, put_apply, Nat.reduceEqDiff, ↓reduceIte, reduceCtorEq]; rfl) (fun h => ?_) (fun h => ?_) <;> simp only [decide_eq_true_eq, decide_eq_false_iff_not, Decidable.not_not, Bool.and_eq_true, Bool.not_eq_true', Bool.not_eq_false'] at h)
  · simp (maxDischargeDepth := 30) only [h, amL, args0, Nat.reduceEqDiff, reduceCtorEq, ↓reduceIte, Nat.reduceAdd, resultsA, results1, Int.reduceNeg, splice, Nat.reduceLeDiff, part, fillA, fillE, Nat.reduceLT]
    first | (refine O_split (by simp only [put_apply, Nat.reduceEqDiff, ↓reduceIte, reduceCtorEq]; rfl) (fun h' => ?_) (fun h' => ?_) <;> simp only [decide_eq_true_eq, decide_eq_false_iff_not, Decidable.not_not, Bool.and_eq_true, Bool.not_eq_true', Bool.not_eq_false'] at h') | (refine W_split (by simp only [get_t, put_apply, Nat.reduceEqDiff, ↓reduceIte, reduceCtorEq]; rfl) (fun h' => ?_) (fun h' => ?_) <;> simp only [decide_eq_true_eq, decide_eq_false_iff_not, Decidable.not_not, Bool.and_eq_true, Bool.not_eq_true', Bool.not_eq_false'] at h')
    · simp (maxDischargeDepth := 30) only [h', pow_and n h h', amL, args0, Nat.reduceEqDiff, reduceCtorEq, ↓reduceIte, Nat.reduceAdd, resultsA, results1, Int.reduceNeg, splice, Nat.reduceLeDiff, part, fillA, fillE, Nat.reduceLT]
    · have : ¬ Pow n := by unfold Pow; omega
      simp (maxDischargeDepth := 30) only [h', this, amL, args0, Nat.reduceEqDiff, reduceCtorEq, ↓reduceIte, Nat.reduceAdd, resultsA, results1, Int.reduceNeg, splice, Nat.reduceLeDiff, part, fillA, fillE, Nat.reduceLT]
  · have : ¬ Pow n := by unfold Pow; omega
    simp (maxDischargeDepth := 30) only [h, this, amL, args0, Nat.reduceEqDiff, reduceCtorEq, ↓reduceIte, Nat.reduceAdd, resultsA, results1, Int.reduceNeg, splice, Nat.reduceLeDiff, part, fillA, fillE, Nat.reduceLT]
def homeI (key n : Int) : Int := IntKind.i64.wrap ((IntKind.u64.wrap (key * 11400714819323198485)).fdiv (2 ^ (65 - bitLen n).toNat))
theorem home_spec (key n : Int) (m : Mem) (hn : Pow n) : C S n_ephem_home [.int .u64 key, .int .i64 n] m (fun v m' => v = .int .i64 (homeI key n) ∧ m = m') := by
  refine C_body rfl rfl rfl ?_
  unfold ephem_home
  simp (maxDischargeDepth := 30) only [amL, args0, Nat.reduceEqDiff, reduceCtorEq, ↓reduceIte, Nat.reduceAdd, resultsA, results1, Int.reduceNeg, splice, Nat.reduceLeDiff, part, fillA, fillE, Nat.reduceLT]
  have hcall : S.call 1 n_math_bits_Len [.int .u64 (IntKind.u64.wrap n)] m = some (.int .i64 (bitLen (IntKind.u64.wrap n)), m) := by
    rcases hn with rfl | rfl | rfl | rfl <;> rfl
  refine ⟨1, _, _, hcall, ?_⟩
  simp (maxDischargeDepth := 30) only [aft_mk, amL, args0, Nat.reduceEqDiff, reduceCtorEq, ↓reduceIte, Nat.reduceAdd, resultsA, results1, Int.reduceNeg, splice, Nat.reduceLeDiff, part, fillA, fillE, Nat.reduceLT]
  have : shI .shr .u64 (IntKind.u64.wrap (key * 11400714819323198485)) (IntKind.i64.wrap (65 - bitLen (IntKind.u64.wrap n))) = some (.int .u64 ((IntKind.u64.wrap (key * 11400714819323198485)).fdiv (2 ^ (65 - bitLen n).toNat))) := by
    rcases hn with rfl | rfl | rfl | rfl <;> rfl
  simp (maxDischargeDepth := 30) only [this, amL, args0, Nat.reduceEqDiff, reduceCtorEq, ↓reduceIte, Nat.reduceAdd, resultsA, results1, Int.reduceNeg, splice, Nat.reduceLeDiff, part, fillA, fillE, Nat.reduceLT]
  rfl
def cnt (st : Int) (l : List Slot) : Nat := l.countP (fun s => s.st = st)
theorem cnt_succ {st : Int} {l : List Slot} {i : Nat} {s : Slot} (h : l[i]? = some s) : cnt st (l.take (i + 1)) = cnt st (l.take i) + (if s.st = st then 1 else 0) := by
  obtain ⟨hi, e⟩ := List.getElem?_eq_some_iff.1 h
  rw [List.take_succ_eq_append_getElem hi, e]
  simp [cnt, List.countP_append, List.countP_cons]
theorem cnt_le (st : Int) (l : List Slot) : cnt st l ≤ l.length := List.countP_le_length
theorem encs_get {l : List Slot} {i : Nat} {s : Slot} (h : l[i]? = some s) : (encs l)[i]? = some (enc s) := by simp [h]
theorem many_spec {m : Mem} {p v : V} {l : List Slot} (st : Int) (hp : loadV m none p = some v) (hpp : asPtr 0 p = some p) (hv : Sl m v 3 (encs l)) (hl : l.length < 2 ^ 62) : C S n_ephem_table_many [p, .int .u8 st] m (fun v m' => v = .int .i64 (cnt st l) ∧ Grow m m') := by
  refine C_body rfl rfl rfl ?_
  unfold ephem_table_many
  have hlen : (encs l).length = l.length := by simp
  simp (maxDischargeDepth := 30) only [hp, hpp, hv.len, amL, args0, Nat.reduceEqDiff, reduceCtorEq, ↓reduceIte, Nat.reduceAdd, resultsA, results1, Int.reduceNeg, splice, Nat.reduceLeDiff, part, fillA, fillE, Nat.reduceLT]
  let I := fun (k : Nat) (fr : Frame) (M : Mem) => ∃ i : Nat, i ≤ l.length ∧ k = l.length - i ∧ fr 1 = .int .u8 st ∧ fr 12 = v ∧ fr 13 = .int .i64 l.length ∧ fr 14 = .int .i64 i ∧ fr 5 = .int .i64 (cnt st (l.take i)) ∧ Grow m M
  refine W_loop I ?_ l.length ?_
  · rintro k fr M ⟨i, hi, rfl, h1, h12, h13, h14, h5, hg⟩
    unfold ephem_table_many_l0
    simp (maxDischargeDepth := 30) only [h1, h12, h13, h14, h5, amL, args0, Nat.reduceEqDiff, reduceCtorEq, ↓reduceIte, Nat.reduceAdd, resultsA, results1, Int.reduceNeg, splice, Nat.reduceLeDiff, part, fillA, fillE, Nat.reduceLT]
    first | (refine O_split (by simp only [put_apply, Nat.reduceEqDiff, ↓reduceIte, reduceCtorEq]; rfl) (fun h => ?_) (fun h => ?_) <;> simp only [decide_eq_true_eq, decide_eq_false_iff_not, Decidable.not_not, Bool.and_eq_true, Bool.not_eq_true', Bool.not_eq_false'] at h) | (refine W_split (by simp only [get_t, put_apply, Nat.reduceEqDiff, ↓reduceIte, reduceCtorEq]; rfl) (fun h => ?_) (fun h => ?_) <;> simp only [decide_eq_true_eq, decide_eq_false_iff_not, Decidable.not_not, Bool.and_eq_true, Bool.not_eq_true', Bool.not_eq_false'] at h)
    · have hil : i < l.length := by omega
      obtain ⟨s, hs⟩ : ∃ s, l[i]? = some s := ⟨_, List.getElem?_eq_getElem hil⟩
      have hcs := cnt_succ (st := st) hs
      have hcl := cnt_le st (l.take i)
      have hsl := hv.grow hg
      rw [List.length_take] at hcl
      have w1 : IntKind.i64.wrap ((i : Int) + 1) = ((i + 1 : Nat) : Int) := by rw [wrap_i64] <;> omega
      have w2 : IntKind.i64.wrap ((cnt st (l.take i) : Int) + 1) = ((cnt st (l.take i) + 1 : Nat) : Int) := by rw [wrap_i64] <;> omega
      simp (maxDischargeDepth := 30) only [h, h1, h12, h13, h14, h5, hsl.index (ki := .i64) (n := i) (by omega) (by omega), hsl.load (encs_get hs), enc, amL, args0, Nat.reduceEqDiff, reduceCtorEq, ↓reduceIte, Nat.reduceAdd, resultsA, results1, Int.reduceNeg, splice, Nat.reduceLeDiff, part, fillA, fillE, Nat.reduceLT]
      first | (refine O_split (by simp only [put_apply, Nat.reduceEqDiff, ↓reduceIte, reduceCtorEq]; rfl) (fun h' => ?_) (fun h' => ?_) <;> simp only [decide_eq_true_eq, decide_eq_false_iff_not, Decidable.not_not, Bool.and_eq_true, Bool.not_eq_true', Bool.not_eq_false'] at h') | (refine W_split (by simp only [get_t, put_apply, Nat.reduceEqDiff, ↓reduceIte, reduceCtorEq]; rfl) (fun h' => ?_) (fun h' => ?_) <;> simp only [decide_eq_true_eq, decide_eq_false_iff_not, Decidable.not_not, Bool.and_eq_true, Bool.not_eq_true', Bool.not_eq_false'] at h')
      · simp (maxDischargeDepth := 30) only [h1, h12, h13, h14, h5, w1, w2, amL, args0, Nat.reduceEqDiff, reduceCtorEq, ↓reduceIte, Nat.reduceAdd, resultsA, results1, Int.reduceNeg, splice, Nat.reduceLeDiff, part, fillA, fillE, Nat.reduceLT]
        refine ⟨_, ?_, i + 1, by omega, rfl, ?_, ?_, ?_, ?_, ?_, hg.app⟩
        · omega
        all_goals simp (maxDischargeDepth := 30) only [h1, h12, h13, h14, h5, amL, args0, Nat.reduceEqDiff, reduceCtorEq, ↓reduceIte, Nat.reduceAdd, resultsA, results1, Int.reduceNeg, splice, Nat.reduceLeDiff, part, fillA, fillE, Nat.reduceLT]
        rw [hcs, if_pos h']
      · simp (maxDischargeDepth := 30) only [h1, h12, h13, h14, h5, w1, w2, amL, args0, Nat.reduceEqDiff, reduceCtorEq, ↓reduceIte, Nat.reduceAdd, resultsA, results1, Int.reduceNeg, splice, Nat.reduceLeDiff, part, fillA, fillE, Nat.reduceLT]
        refine ⟨_, ?_, i + 1, by omega, rfl, ?_, ?_, ?_, ?_, ?_, hg.app⟩
        · omega
        all_goals simp (maxDischargeDepth := 30) only [h1, h12, h13, h14, h5, amL, args0, Nat.reduceEqDiff, reduceCtorEq, ↓reduceIte, Nat.reduceAdd, resultsA, results1, Int.reduceNeg, splice, Nat.reduceLeDiff, part, fillA, fillE, Nat.reduceLT]
        rw [hcs, if_neg h']
        rfl
    · simp (maxDischargeDepth := 30) only [h, h1, h12, h13, h14, h5, amL, args0, Nat.reduceEqDiff, reduceCtorEq, ↓reduceIte, Nat.reduceAdd, resultsA, results1, Int.reduceNeg, splice, Nat.reduceLeDiff, part, fillA, fillE, Nat.reduceLT]
      have : l.take i = l := List.take_of_length_le (by omega)
      rw [this]
      exact ⟨rfl, hg⟩
  · exact ⟨0, by omega, rfl, by simp (maxDischargeDepth := 30) only [amL, args0, Nat.reduceEqDiff, reduceCtorEq, ↓reduceIte, Nat.reduceAdd, resultsA, results1, Int.reduceNeg, splice, Nat.reduceLeDiff, part, fillA, fillE, Nat.reduceLT], by simp (maxDischargeDepth := 30) only [amL, args0, Nat.reduceEqDiff, reduceCtorEq, ↓reduceIte, Nat.reduceAdd, resultsA, results1, Int.reduceNeg, splice, Nat.reduceLeDiff, part, fillA, fillE, Nat.reduceLT], by simp (maxDischargeDepth := 30) only [hlen, amL, args0, Nat.reduceEqDiff, reduceCtorEq, ↓reduceIte, Nat.reduceAdd, resultsA, results1, Int.reduceNeg, splice, Nat.reduceLeDiff, part, fillA, fillE, Nat.reduceLT], by simp (maxDischargeDepth := 30) only [amL, args0, Nat.reduceEqDiff, reduceCtorEq, ↓reduceIte, Nat.reduceAdd, resultsA, results1, Int.reduceNeg, splice, Nat.reduceLeDiff, part, fillA, fillE, Nat.reduceLT]; rfl, by simp (maxDischargeDepth := 30) only [amL, args0, Nat.reduceEqDiff, reduceCtorEq, ↓reduceIte, Nat.reduceAdd, resultsA, results1, Int.reduceNeg, splice, Nat.reduceLeDiff, part, fillA, fillE, Nat.reduceLT]; rfl, Grow.refl _⟩
def findF (l : List Slot) (key : Int) : Nat → Nat → Option Nat → Nat × Bool
  | 0, i, _ => (i, false)
  | f + 1, i, g => match l[i]? with
    | none => (i, false)
    | some s => if s.st = 0 then (g.getD i, false) else if s.st = 1 ∧ s.key = key then (i, true) else findF l key f ((i + 1) % l.length) (if s.st = 2 ∧ g = none then some i else g)
def findL (l : List Slot) (key : Int) : Nat × Bool := if l.length = 0 then (0, false) else findF l key l.length (homeI key l.length).toNat none
theorem home_range {key n : Int} (h : Pow n) : 0 ≤ homeI key n ∧ homeI key n < n := by
  have h0 : ∀ x : Int, 0 ≤ IntKind.u64.wrap x ∧ IntKind.u64.wrap x < 18446744073709551616 := fun x => by rw [IntKind.wrap_u64]; omega
  obtain ⟨a, b⟩ := h0 (key * 11400714819323198485)
  unfold homeI
  have e : ∀ k : Nat, (2 : Int) ^ k ∣ 2 ^ k := fun k => Int.dvd_refl _
  rcases h with rfl | rfl | rfl | rfl
  · rw [show (65 - bitLen 8).toNat = 61 from rfl, Int.fdiv_eq_ediv_of_nonneg _ (by decide), wrap_i64] <;> omega
  · rw [show (65 - bitLen 16).toNat = 60 from rfl, Int.fdiv_eq_ediv_of_nonneg _ (by decide), wrap_i64] <;> omega
  · rw [show (65 - bitLen 32).toNat = 59 from rfl, Int.fdiv_eq_ediv_of_nonneg _ (by decide), wrap_i64] <;> omega
  · rw [show (65 - bitLen 64).toNat = 58 from rfl, Int.fdiv_eq_ediv_of_nonneg _ (by decide), wrap_i64] <;> omega
def goneI : Option Nat → Int
  | none => -1
  | some i => i
theorem Pow.le {n : Int} (h : Pow n) : 8 ≤ n ∧ n ≤ 64 := by unfold Pow at h; omega
theorem exists_free {l : List Slot} (h : 0 < cnt 0 l) : ∃ (j : Nat) (s : Slot), l[j]? = some s ∧ s.st = 0 := by
  unfold cnt at h
  obtain ⟨s, hs, h0⟩ := List.countP_pos_iff.1 h
  obtain ⟨j, hj⟩ := List.getElem?_of_mem hs
  exact ⟨j, s, hj, by simpa using h0⟩
theorem find_spec {m : Mem} {p v : V} {l : List Slot} (key : Int) (hp0 : loadV m none p = some v) (hpp : asPtr 0 p = some p) (hv : Sl m v 3 (encs l)) (hl : l.length = 0 ∨ Pow l.length ∧ 0 < cnt 0 l) : C S n_ephem_table_find [p, .int .u64 key] m (fun v m' => v = .tup [.int .i64 (findL l key).1, .bool (findL l key).2] ∧ Grow m m') := by
  refine C_body rfl rfl rfl ?_
  unfold ephem_table_find
  have hp := fun g => loadV_some (g := g) hp0
  have hlen : (encs l).length = l.length := by simp
  simp (maxDischargeDepth := 30) only [hp0, hpp, hv.len, hlen, amL, args0, Nat.reduceEqDiff, reduceCtorEq, ↓reduceIte, Nat.reduceAdd, resultsA, results1, Int.reduceNeg, splice, Nat.reduceLeDiff, part, fillA, fillE, Nat.reduceLT]
  first | (refine O_split (by simp only [put_apply, Nat.reduceEqDiff, ↓reduceIte, reduceCtorEq]; rfl) (fun h0 => ?_) (fun h0 => ?_) <;> simp only [decide_eq_true_eq, decide_eq_false_iff_not, Decidable.not_not, Bool.and_eq_true, Bool.not_eq_true', Bool.not_eq_false'] at h0) | (refine W_split (by simp only [get_t, put_apply, Nat.reduceEqDiff, ↓reduceIte, reduceCtorEq]; rfl) (fun h0 => ?_) (fun h0 => ?_) <;> simp only [decide_eq_true_eq, decide_eq_false_iff_not, Decidable.not_not, Bool.and_eq_true, Bool.not_eq_true', Bool.not_eq_false'] at h0)
  · have h00 : l.length = 0 := by omega
    simp (maxDischargeDepth := 30) only [findL, h00, amL, args0, Nat.reduceEqDiff, reduceCtorEq, ↓reduceIte, Nat.reduceAdd, resultsA, results1, Int.reduceNeg, splice, Nat.reduceLeDiff, part, fillA, fillE, Nat.reduceLT]
    exact ⟨rfl, Grow.refl _⟩
  have h00 : ¬ l.length = 0 := by omega
  obtain ⟨hpow, hfree⟩ : Pow l.length ∧ 0 < cnt 0 l := by rcases hl with h | h; omega; exact h
  have hn := hpow.le
  obtain ⟨hh0, hh1⟩ := home_range (key := key) hpow
  simp (maxDischargeDepth := 30) only [amL, args0, Nat.reduceEqDiff, reduceCtorEq, ↓reduceIte, Nat.reduceAdd, resultsA, results1, Int.reduceNeg, splice, Nat.reduceLeDiff, part, fillA, fillE, Nat.reduceLT]
  refine (home_spec key l.length m hpow).mono ?_
  rintro _ _ ⟨rfl, rfl⟩
  simp (maxDischargeDepth := 30) only [aft_mk, amL, args0, Nat.reduceEqDiff, reduceCtorEq, ↓reduceIte, Nat.reduceAdd, resultsA, results1, Int.reduceNeg, splice, Nat.reduceLeDiff, part, fillA, fillE, Nat.reduceLT]
  obtain ⟨j0, s0, hj0, hs0⟩ := exists_free hfree
  have hjl := (List.getElem?_eq_some_iff.1 hj0).1
  let I := fun (k : Nat) (fr : Frame) (M : Mem) => ∃ (i f : Nat) (g : Option Nat), i < l.length ∧ (i + k) % l.length = j0 ∧ k < f ∧ fr 0 = p ∧ fr 1 = .int .u64 key ∧ fr 6 = .int .i64 l.length ∧ fr 8 = .int .i64 i ∧ fr 7 = .int .i64 (goneI g) ∧ findF l key f i g = findL l key ∧ Grow m M
  have hM : ∀ {M}, Grow m M → loadV M none p = some v := by rintro _ ⟨g, rfl⟩; exact hp g
  refine W_loop I ?_ ((j0 + l.length - (homeI key l.length).toNat) % l.length) ?_
  · rintro k fr M ⟨i, f, g, hi, hk, hf, h0, h1, h6, h8, h7, hT, hg⟩
    obtain ⟨s, hs⟩ : ∃ s, l[i]? = some s := ⟨_, List.getElem?_eq_getElem hi⟩
    have hsl := hv.grow hg
    obtain ⟨f, rfl⟩ : ∃ f', f = f' + 1 := ⟨f - 1, by omega⟩
    simp only [findF, hs] at hT
    unfold ephem_table_find_l0
    have ix := hsl.index (ki := .i64) (n := i) (by omega) (by omega)
    have ld := fun o k => hsl.load (o := o) (k := k) (encs_get hs)
    simp only [Int.toNat_natCast, enc] at ix ld
    have w1 : IntKind.i64.wrap ((i : Int) + 1) = ((i + 1 : Nat) : Int) := by rw [wrap_i64] <;> omega
    have w2 : ((i + 1 : Nat) : Int).tmod l.length = (((i + 1) % l.length : Nat) : Int) := by rw [Int.tmod_eq_emod_of_nonneg (by omega)]; omega
    have w3 : ¬ ((l.length : Int) = 0) := by omega
    by_cases hz : s.st = 0
    · rw [if_pos hz] at hT
      have hT1 : (findL l key).1 = g.getD i := by rw [← hT]
      have hT2 : (findL l key).2 = false := by rw [← hT]
      cases g with
      | none =>
        simp only [goneI] at h7
        have c : ¬ ((0 : Int) ≤ -1) := by omega
        simp (maxDischargeDepth := 30) only [h0, h1, h6, h8, h7, hpp, hM hg, ix, ld, hz, c, hT1, hT2, Option.getD_none, amL, args0, Nat.reduceEqDiff, reduceCtorEq, ↓reduceIte, Nat.reduceAdd, resultsA, results1, Int.reduceNeg, splice, Nat.reduceLeDiff, part, fillA, fillE, Nat.reduceLT]
        exact hg
      | some y =>
        simp only [goneI] at h7
        have c : (0 : Int) ≤ y := by omega
        simp (maxDischargeDepth := 30) only [h0, h1, h6, h8, h7, hpp, hM hg, ix, ld, hz, c, hT1, hT2, Option.getD_some, amL, args0, Nat.reduceEqDiff, reduceCtorEq, ↓reduceIte, Nat.reduceAdd, resultsA, results1, Int.reduceNeg, splice, Nat.reduceLeDiff, part, fillA, fillE, Nat.reduceLT]
        exact hg
    rw [if_neg hz] at hT
    by_cases h1k : s.st = 1 ∧ s.key = key
    · rw [if_pos h1k] at hT
      obtain ⟨h1s, hk1⟩ := h1k
      have hT1 : (findL l key).1 = i := by rw [← hT]
      have hT2 : (findL l key).2 = true := by rw [← hT]
      have c : ¬ ((1 : Int) = 0) := by omega
      simp (maxDischargeDepth := 30) only [h0, h1, h6, h8, h7, hpp, hM hg, ix, ld, h1s, hk1, c, hT1, hT2, amL, args0, Nat.reduceEqDiff, reduceCtorEq, ↓reduceIte, Nat.reduceAdd, resultsA, results1, Int.reduceNeg, splice, Nat.reduceLeDiff, part, fillA, fillE, Nat.reduceLT]
      exact hg.app
    rw [if_neg h1k] at hT
    have hk1 : 1 ≤ k := by
      rcases Nat.eq_zero_or_pos k with h | h
      · subst h
        rw [Nat.add_zero, Nat.mod_eq_of_lt hi] at hk
        subst hk
        rw [hj0] at hs
        cases hs
        exact absurd hs0 hz
      · exact h
    have hnext : (i + 1) % l.length < l.length := Nat.mod_lt _ (by omega)
    have hnk : ((i + 1) % l.length + (k - 1)) % l.length = j0 := by
      rw [Nat.mod_add_mod, ← hk]; congr 1; omega
    have fin : ∀ (fr' : Frame) (g' : Option Nat), fr' 0 = p → fr' 1 = .int .u64 key → fr' 6 = .int .i64 l.length → fr' 8 = .int .i64 ((i + 1) % l.length : Nat) → fr' 7 = .int .i64 (goneI g') → findF l key f ((i + 1) % l.length) g' = findL l key → ∀ M' : Mem, Grow m M' → ∃ j, j < k ∧ I j fr' M' := fun fr' g' a0 a1 a6 a8 a7 aT M' hM' => ⟨k - 1, by omega, (i + 1) % l.length, f, g', hnext, hnk, by omega, a0, a1, a6, a8, a7, aT, hM'⟩
    by_cases h1s : s.st = 1
    · have hkk : ¬ s.key = key := fun e => h1k ⟨h1s, e⟩
      have c : ¬ ((1 : Int) = 0) := by omega
      have c2 : ¬ ((1 : Int) = 2) := by omega
      rw [if_neg (by rw [h1s]; omega)] at hT
      simp (maxDischargeDepth := 30) only [h0, h1, h6, h8, h7, hpp, hM hg, ix, ld, h1s, hkk, c, c2, w1, w2, w3, amL, args0, Nat.reduceEqDiff, reduceCtorEq, ↓reduceIte, Nat.reduceAdd, resultsA, results1, Int.reduceNeg, splice, Nat.reduceLeDiff, part, fillA, fillE, Nat.reduceLT]
      refine fin _ g ?_ ?_ ?_ ?_ ?_ hT _ hg.app
      all_goals simp (maxDischargeDepth := 30) only [h0, h1, h6, h8, h7, amL, args0, Nat.reduceEqDiff, reduceCtorEq, ↓reduceIte, Nat.reduceAdd, resultsA, results1, Int.reduceNeg, splice, Nat.reduceLeDiff, part, fillA, fillE, Nat.reduceLT]
    by_cases h2s : s.st = 2
    · have c : ¬ ((2 : Int) = 0) := by omega
      have c2 : ¬ ((2 : Int) = 1) := by omega
      cases g with
      | none =>
        rw [if_pos ⟨h2s, rfl⟩] at hT
        simp only [goneI] at h7
        have c3 : (-1 : Int) < 0 := by omega
        simp (maxDischargeDepth := 30) only [h0, h1, h6, h8, h7, hpp, hM hg, ix, ld, h2s, c, c2, c3, w1, w2, w3, amL, args0, Nat.reduceEqDiff, reduceCtorEq, ↓reduceIte, Nat.reduceAdd, resultsA, results1, Int.reduceNeg, splice, Nat.reduceLeDiff, part, fillA, fillE, Nat.reduceLT]
        refine fin _ (some i) ?_ ?_ ?_ ?_ ?_ hT _ hg.app
        all_goals simp (maxDischargeDepth := 30) only [h0, h1, h6, h8, h7, amL, args0, Nat.reduceEqDiff, reduceCtorEq, ↓reduceIte, Nat.reduceAdd, resultsA, results1, Int.reduceNeg, splice, Nat.reduceLeDiff, part, fillA, fillE, Nat.reduceLT]
        rfl
      | some y =>
        rw [if_neg (by simp)] at hT
        simp only [goneI] at h7
        have c3 : ¬ ((y : Int) < 0) := by omega
        simp (maxDischargeDepth := 30) only [h0, h1, h6, h8, h7, hpp, hM hg, ix, ld, h2s, c, c2, c3, w1, w2, w3, amL, args0, Nat.reduceEqDiff, reduceCtorEq, ↓reduceIte, Nat.reduceAdd, resultsA, results1, Int.reduceNeg, splice, Nat.reduceLeDiff, part, fillA, fillE, Nat.reduceLT]
        refine fin _ (some y) ?_ ?_ ?_ ?_ ?_ hT _ hg.app
        all_goals simp (maxDischargeDepth := 30) only [h0, h1, h6, h8, h7, amL, args0, Nat.reduceEqDiff, reduceCtorEq, ↓reduceIte, Nat.reduceAdd, resultsA, results1, Int.reduceNeg, splice, Nat.reduceLeDiff, part, fillA, fillE, Nat.reduceLT]
        rfl
    · rw [if_neg (fun e => h2s e.1)] at hT
      simp (maxDischargeDepth := 30) only [h0, h1, h6, h8, h7, hpp, hM hg, ix, ld, hz, h1s, h2s, w1, w2, w3, amL, args0, Nat.reduceEqDiff, reduceCtorEq, ↓reduceIte, Nat.reduceAdd, resultsA, results1, Int.reduceNeg, splice, Nat.reduceLeDiff, part, fillA, fillE, Nat.reduceLT]
      refine fin _ g ?_ ?_ ?_ ?_ ?_ hT _ hg.app
      all_goals simp (maxDischargeDepth := 30) only [h0, h1, h6, h8, h7, amL, args0, Nat.reduceEqDiff, reduceCtorEq, ↓reduceIte, Nat.reduceAdd, resultsA, results1, Int.reduceNeg, splice, Nat.reduceLeDiff, part, fillA, fillE, Nat.reduceLT]
  · refine ⟨(homeI key l.length).toNat, l.length, none, by omega, ?_, Nat.mod_lt _ (by omega), by simp (maxDischargeDepth := 30) only [amL, args0, Nat.reduceEqDiff, reduceCtorEq, ↓reduceIte, Nat.reduceAdd, resultsA, results1, Int.reduceNeg, splice, Nat.reduceLeDiff, part, fillA, fillE, Nat.reduceLT], by simp (maxDischargeDepth := 30) only [amL, args0, Nat.reduceEqDiff, reduceCtorEq, ↓reduceIte, Nat.reduceAdd, resultsA, results1, Int.reduceNeg, splice, Nat.reduceLeDiff, part, fillA, fillE, Nat.reduceLT], by simp (maxDischargeDepth := 30) only [amL, args0, Nat.reduceEqDiff, reduceCtorEq, ↓reduceIte, Nat.reduceAdd, resultsA, results1, Int.reduceNeg, splice, Nat.reduceLeDiff, part, fillA, fillE, Nat.reduceLT], ?_, by simp (maxDischargeDepth := 30) only [amL, args0, Nat.reduceEqDiff, reduceCtorEq, ↓reduceIte, Nat.reduceAdd, resultsA, results1, Int.reduceNeg, splice, Nat.reduceLeDiff, part, fillA, fillE, Nat.reduceLT]; rfl, ?_, Grow.refl _⟩
    · have h1 : (homeI key l.length).toNat < l.length := by omega
      rw [Nat.add_mod_mod]
      have : (homeI key l.length).toNat + (j0 + l.length - (homeI key l.length).toNat) = j0 + l.length := by omega
      rw [this, Nat.add_mod_right, Nat.mod_eq_of_lt hjl]
    · simp (maxDischargeDepth := 30) only [amL, args0, Nat.reduceEqDiff, reduceCtorEq, ↓reduceIte, Nat.reduceAdd, resultsA, results1, Int.reduceNeg, splice, Nat.reduceLeDiff, part, fillA, fillE, Nat.reduceLT]
      omega
    · simp only [findL, if_neg h00]
def okS (l : List Slot) (i : Nat) (s : Slot) : Bool := decide (s.st < 3) && (if s.st = 1 then decide (s.key ≠ 0) && decide (findL l s.key = (i, true)) else decide (s.key = 0 ∧ s.val = 0))
def okFrom (l : List Slot) : Nat → List Slot → Bool
  | _, [] => true
  | i, s :: r => okS l i s && okFrom l (i + 1) r
def validB (l : List Slot) : Bool := decide (l.length = 0) || (decide (Pow l.length) && (decide (l.length ≤ 4 * cnt 0 l) && okFrom l 0 l))
theorem okFrom_drop {l : List Slot} {i : Nat} {s : Slot} (h : l[i]? = some s) : okFrom l i (l.drop i) = (okS l i s && okFrom l (i + 1) (l.drop (i + 1))) := by
  obtain ⟨hi, e⟩ := List.getElem?_eq_some_iff.1 h
  rw [List.drop_eq_getElem_cons hi, e]
  rfl
theorem Check_spec {m : Mem} {v : V} {l : List Slot} (hv : Sl m v 3 (encs l)) (hlt : l.length < 2 ^ 60) : C S n_ephem_Check [.agg [v]] m (fun r m' => r = .int .i64 (if validB l = true then 0 else 2) ∧ Grow m m') := by
  refine C_body rfl rfl rfl ?_
  unfold ephem_Check
  have hlen : (encs l).length = l.length := by simp
  have hcell := hv.cell
  simp (maxDischargeDepth := 30) only [hv.len, hcell, hlen, amL, args0, Nat.reduceEqDiff, reduceCtorEq, ↓reduceIte, Nat.reduceAdd, resultsA, results1, Int.reduceNeg, splice, Nat.reduceLeDiff, part, fillA, fillE, Nat.reduceLT]
  first | (refine O_split (by simp only [put_apply, Nat.reduceEqDiff, ↓reduceIte, reduceCtorEq]; rfl) (fun h0 => ?_) (fun h0 => ?_) <;> simp only [decide_eq_true_eq, decide_eq_false_iff_not, Decidable.not_not, Bool.and_eq_true, Bool.not_eq_true', Bool.not_eq_false'] at h0) | (refine W_split (by simp only [get_t, put_apply, Nat.reduceEqDiff, ↓reduceIte, reduceCtorEq]; rfl) (fun h0 => ?_) (fun h0 => ?_) <;> simp only [decide_eq_true_eq, decide_eq_false_iff_not, Decidable.not_not, Bool.and_eq_true, Bool.not_eq_true', Bool.not_eq_false'] at h0)
  · have : l.length = 0 := by omega
    simp (maxDischargeDepth := 30) only [validB, this, Bool.true_or, amL, args0, Nat.reduceEqDiff, reduceCtorEq, ↓reduceIte, Nat.reduceAdd, resultsA, results1, Int.reduceNeg, splice, Nat.reduceLeDiff, part, fillA, fillE, Nat.reduceLT]
    exact ((Grow.refl _).app).app
  have h00 : ¬ l.length = 0 := by omega
  have e1 : validB l = (decide (Pow l.length) && (decide (l.length ≤ 4 * cnt 0 l) && okFrom l 0 l)) := by simp [validB, h00]
  simp (maxDischargeDepth := 30) only [amL, args0, Nat.reduceEqDiff, reduceCtorEq, ↓reduceIte, Nat.reduceAdd, resultsA, results1, Int.reduceNeg, splice, Nat.reduceLeDiff, part, fillA, fillE, Nat.reduceLT]
  refine (sized_spec l.length _).mono ?_
  rintro _ _ ⟨rfl, rfl⟩
  simp (maxDischargeDepth := 30) only [aft_mk, amL, args0, Nat.reduceEqDiff, reduceCtorEq, ↓reduceIte, Nat.reduceAdd, resultsA, results1, Int.reduceNeg, splice, Nat.reduceLeDiff, part, fillA, fillE, Nat.reduceLT]
  by_cases hpow : Pow l.length
  · have hpl := hpow.le
    simp (maxDischargeDepth := 30) only [hpow, amL, args0, Nat.reduceEqDiff, reduceCtorEq, ↓reduceIte, Nat.reduceAdd, resultsA, results1, Int.reduceNeg, splice, Nat.reduceLeDiff, part, fillA, fillE, Nat.reduceLT]
    refine (many_spec (v := v) (l := l) 0 (by simp (maxDischargeDepth := 30) only [amL, args0, Nat.reduceEqDiff, reduceCtorEq, ↓reduceIte, Nat.reduceAdd, resultsA, results1, Int.reduceNeg, splice, Nat.reduceLeDiff, part, fillA, fillE, Nat.reduceLT]) (by simp (maxDischargeDepth := 30) only [amL, args0, Nat.reduceEqDiff, reduceCtorEq, ↓reduceIte, Nat.reduceAdd, resultsA, results1, Int.reduceNeg, splice, Nat.reduceLeDiff, part, fillA, fillE, Nat.reduceLT]) hv.app.app (by omega)).mono ?_
    rintro _ _ ⟨rfl, g, rfl⟩
    have hcl := cnt_le 0 l
    have w1 : IntKind.i64.wrap (4 * (cnt 0 l : Int)) = 4 * (cnt 0 l : Int) := by rw [wrap_i64] <;> omega
    simp (maxDischargeDepth := 30) only [aft_mk, w1, hpow, hcell, amL, args0, Nat.reduceEqDiff, reduceCtorEq, ↓reduceIte, Nat.reduceAdd, resultsA, results1, Int.reduceNeg, splice, Nat.reduceLeDiff, part, fillA, fillE, Nat.reduceLT]
    first | (refine O_split (by simp only [put_apply, Nat.reduceEqDiff, ↓reduceIte, reduceCtorEq]; rfl) (fun h1 => ?_) (fun h1 => ?_) <;> simp only [decide_eq_true_eq, decide_eq_false_iff_not, Decidable.not_not, Bool.and_eq_true, Bool.not_eq_true', Bool.not_eq_false'] at h1) | (refine W_split (by simp only [get_t, put_apply, Nat.reduceEqDiff, ↓reduceIte, reduceCtorEq]; rfl) (fun h1 => ?_) (fun h1 => ?_) <;> simp only [decide_eq_true_eq, decide_eq_false_iff_not, Decidable.not_not, Bool.and_eq_true, Bool.not_eq_true', Bool.not_eq_false'] at h1)
    · have : ¬ l.length ≤ 4 * cnt 0 l := by omega
      simp (maxDischargeDepth := 30) only [e1, this, Bool.false_and, Bool.and_false, amL, args0, Nat.reduceEqDiff, reduceCtorEq, ↓reduceIte, Nat.reduceAdd, resultsA, results1, Int.reduceNeg, splice, Nat.reduceLeDiff, part, fillA, fillE, Nat.reduceLT]
      exact ((Grow.refl _).app).app.app
    have h4 : l.length ≤ 4 * cnt 0 l := by omega
    have e2 : validB l = okFrom l 0 l := by simp [e1, hpow, h4]
    simp (maxDischargeDepth := 30) only [hv.len, hcell, hlen, amL, args0, Nat.reduceEqDiff, reduceCtorEq, ↓reduceIte, Nat.reduceAdd, resultsA, results1, Int.reduceNeg, splice, Nat.reduceLeDiff, part, fillA, fillE, Nat.reduceLT]
    generalize hM0 : m ++ [Blk.cells true [[v]]] ++ [Blk.cells true [[v]]] ++ g = M0
    generalize hp : V.ptr (List.length (m ++ [Blk.cells true [[v]]])) 0 0 = p
    have hg0 : Grow m M0 := by rw [← hM0]; exact ((Grow.refl _).app).app.app
    have hp0 : loadV M0 none p = some v := by rw [← hM0, ← hp]; simp (maxDischargeDepth := 30) only [amL, args0, Nat.reduceEqDiff, reduceCtorEq, ↓reduceIte, Nat.reduceAdd, resultsA, results1, Int.reduceNeg, splice, Nat.reduceLeDiff, part, fillA, fillE, Nat.reduceLT]
    have hpp : asPtr 0 p = some p := by rw [← hp]; rfl
    have hcnt : 0 < cnt 0 l := by omega
    clear hM0 hp
    let I := fun (k : Nat) (fr : Frame) (M : Mem) => ∃ i : Nat, i ≤ l.length ∧ k = l.length - i ∧ fr 3 = p ∧ fr 28 = v ∧ fr 29 = .int .i64 l.length ∧ fr 30 = .int .i64 i ∧ okFrom l i (l.drop i) = okFrom l 0 l ∧ Grow M0 M
    refine W_loop I ?_ l.length ?_
    · rintro k fr M ⟨i, hi, rfl, f3, f28, f29, f30, hok, hg⟩
      unfold ephem_Check_l0
      simp (maxDischargeDepth := 30) only [f3, f28, f29, f30, amL, args0, Nat.reduceEqDiff, reduceCtorEq, ↓reduceIte, Nat.reduceAdd, resultsA, results1, Int.reduceNeg, splice, Nat.reduceLeDiff, part, fillA, fillE, Nat.reduceLT]
      first | (refine O_split (by simp only [put_apply, Nat.reduceEqDiff, ↓reduceIte, reduceCtorEq]; rfl) (fun h => ?_) (fun h => ?_) <;> simp only [decide_eq_true_eq, decide_eq_false_iff_not, Decidable.not_not, Bool.and_eq_true, Bool.not_eq_true', Bool.not_eq_false'] at h) | (refine W_split (by simp only [get_t, put_apply, Nat.reduceEqDiff, ↓reduceIte, reduceCtorEq]; rfl) (fun h => ?_) (fun h => ?_) <;> simp only [decide_eq_true_eq, decide_eq_false_iff_not, Decidable.not_not, Bool.and_eq_true, Bool.not_eq_true', Bool.not_eq_false'] at h)
      · have hil : i < l.length := by omega
        obtain ⟨s, hs⟩ : ∃ s, l[i]? = some s := ⟨_, List.getElem?_eq_getElem hil⟩
        have hsl := (hv.grow hg0).grow hg
        have ix := hsl.index (ki := .i64) (n := i) (by omega) (by omega)
        have ld := fun o k => hsl.load (o := o) (k := k) (encs_get hs)
        simp only [Int.toNat_natCast, enc] at ix ld
        have w1 : IntKind.i64.wrap ((i : Int) + 1) = ((i + 1 : Nat) : Int) := by rw [wrap_i64] <;> omega
        rw [okFrom_drop hs] at hok
        have fin : ∀ (fr' : Frame), fr' 3 = p → fr' 28 = v → fr' 29 = .int .i64 l.length → fr' 30 = .int .i64 (i + 1 : Nat) → okS l i s = true → ∀ M' : Mem, Grow M0 M' → ∃ j, j < l.length - i ∧ I j fr' M' := fun fr' a3 a28 a29 a30 a M' hM' => ⟨l.length - (i + 1), by omega, i + 1, by omega, rfl, a3, a28, a29, a30, by rw [← hok, a, Bool.true_and], hM'⟩
        by_cases c1 : 3 ≤ s.st
        · have : okS l i s = false := by simp [okS]; omega
          rw [this, Bool.false_and] at hok
          simp (maxDischargeDepth := 30) only [h, f3, f28, f29, f30, ix, ld, c1, e2, ← hok, amL, args0, Nat.reduceEqDiff, reduceCtorEq, ↓reduceIte, Nat.reduceAdd, resultsA, results1, Int.reduceNeg, splice, Nat.reduceLeDiff, part, fillA, fillE, Nat.reduceLT]
          exact hg0.trans hg.app
        by_cases c2 : s.st = 1
        · have c3 : ¬ ((3 : Int) ≤ 1) := by omega
          simp (maxDischargeDepth := 30) only [h, f3, f28, f29, f30, ix, ld, c2, c3, amL, args0, Nat.reduceEqDiff, reduceCtorEq, ↓reduceIte, Nat.reduceAdd, resultsA, results1, Int.reduceNeg, splice, Nat.reduceLeDiff, part, fillA, fillE, Nat.reduceLT]
          refine (find_spec (v := v) (l := l) s.key (loadV_some (loadV_grow hp0 hg)) hpp hsl.app (.inr ⟨hpow, hcnt⟩)).mono ?_
          rintro _ _ ⟨rfl, g', rfl⟩
          simp (maxDischargeDepth := 30) only [aft_mk, amL, args0, Nat.reduceEqDiff, reduceCtorEq, ↓reduceIte, Nat.reduceAdd, resultsA, results1, Int.reduceNeg, splice, Nat.reduceLeDiff, part, fillA, fillE, Nat.reduceLT]
          by_cases k0 : s.key = 0
          · have : okS l i s = false := by simp [okS, c2, k0]
            rw [this, Bool.false_and] at hok
            simp (maxDischargeDepth := 30) only [k0, e2, ← hok, amL, args0, Nat.reduceEqDiff, reduceCtorEq, ↓reduceIte, Nat.reduceAdd, resultsA, results1, Int.reduceNeg, splice, Nat.reduceLeDiff, part, fillA, fillE, Nat.reduceLT]
            exact hg0.trans hg.app.app
          by_cases k1 : (findL l s.key).2 = true
          · by_cases k2 : (findL l s.key).1 = i
            · have hok1 : okS l i s = true := by simp [okS, c2, k0, Prod.ext_iff, k1, k2]
              have k3 : ((findL l s.key).1 : Int) = i := by omega
              simp (maxDischargeDepth := 30) only [k0, k1, k3, f3, f28, f29, f30, w1, amL, args0, Nat.reduceEqDiff, reduceCtorEq, ↓reduceIte, Nat.reduceAdd, resultsA, results1, Int.reduceNeg, splice, Nat.reduceLeDiff, part, fillA, fillE, Nat.reduceLT]
              refine fin _ ?_ ?_ ?_ ?_ hok1 _ hg.app.app
              all_goals simp (maxDischargeDepth := 30) only [f3, f28, f29, f30, amL, args0, Nat.reduceEqDiff, reduceCtorEq, ↓reduceIte, Nat.reduceAdd, resultsA, results1, Int.reduceNeg, splice, Nat.reduceLeDiff, part, fillA, fillE, Nat.reduceLT]
            · have : okS l i s = false := by simp [okS, c2, Prod.ext_iff, k2]
              rw [this, Bool.false_and] at hok
              have k3 : ¬ ((findL l s.key).1 : Int) = i := by omega
              simp (maxDischargeDepth := 30) only [k0, k1, k3, f3, f28, f29, f30, e2, ← hok, amL, args0, Nat.reduceEqDiff, reduceCtorEq, ↓reduceIte, Nat.reduceAdd, resultsA, results1, Int.reduceNeg, splice, Nat.reduceLeDiff, part, fillA, fillE, Nat.reduceLT]
              exact hg0.trans hg.app.app
          · have : okS l i s = false := by simp [okS, c2, Prod.ext_iff, k1]
            rw [this, Bool.false_and] at hok
            simp (maxDischargeDepth := 30) only [k0, k1, f3, f28, f29, f30, e2, ← hok, amL, args0, Nat.reduceEqDiff, reduceCtorEq, ↓reduceIte, Nat.reduceAdd, resultsA, results1, Int.reduceNeg, splice, Nat.reduceLeDiff, part, fillA, fillE, Nat.reduceLT]
            exact hg0.trans hg.app.app
        · by_cases c3 : s.key = 0 ∧ s.val = 0
          · obtain ⟨c4, c5⟩ := c3
            have hok1 : okS l i s = true := by simp [okS, c2, c4, c5]; omega
            simp (maxDischargeDepth := 30) only [h, f3, f28, f29, f30, ix, ld, c1, c2, c4, c5, w1, amL, args0, Nat.reduceEqDiff, reduceCtorEq, ↓reduceIte, Nat.reduceAdd, resultsA, results1, Int.reduceNeg, splice, Nat.reduceLeDiff, part, fillA, fillE, Nat.reduceLT]
            refine fin _ ?_ ?_ ?_ ?_ hok1 _ hg.app
            all_goals simp (maxDischargeDepth := 30) only [f3, f28, f29, f30, amL, args0, Nat.reduceEqDiff, reduceCtorEq, ↓reduceIte, Nat.reduceAdd, resultsA, results1, Int.reduceNeg, splice, Nat.reduceLeDiff, part, fillA, fillE, Nat.reduceLT]
          · have : okS l i s = false := by simp [okS, c2]; intro _ a b; exact c3 ⟨a, b⟩
            rw [this, Bool.false_and] at hok
            have c6 : (decide (s.key = 0) && decide (s.val = 0)) = false := by simpa using c3
            simp (maxDischargeDepth := 30) only [h, f3, f28, f29, f30, ix, ld, c1, c2, c6, e2, ← hok, amL, args0, Nat.reduceEqDiff, reduceCtorEq, ↓reduceIte, Nat.reduceAdd, resultsA, results1, Int.reduceNeg, splice, Nat.reduceLeDiff, part, fillA, fillE, Nat.reduceLT]
            exact hg0.trans hg.app
      · have : i = l.length := by omega
        subst this
        rw [List.drop_length] at hok
        simp (maxDischargeDepth := 30) only [h, f3, f28, f29, f30, e2, ← hok, okFrom, amL, args0, Nat.reduceEqDiff, reduceCtorEq, ↓reduceIte, Nat.reduceAdd, resultsA, results1, Int.reduceNeg, splice, Nat.reduceLeDiff, part, fillA, fillE, Nat.reduceLT]
        exact hg0.trans hg
    · exact ⟨0, by omega, rfl, by simp (maxDischargeDepth := 30) only [amL, args0, Nat.reduceEqDiff, reduceCtorEq, ↓reduceIte, Nat.reduceAdd, resultsA, results1, Int.reduceNeg, splice, Nat.reduceLeDiff, part, fillA, fillE, Nat.reduceLT], by simp (maxDischargeDepth := 30) only [amL, args0, Nat.reduceEqDiff, reduceCtorEq, ↓reduceIte, Nat.reduceAdd, resultsA, results1, Int.reduceNeg, splice, Nat.reduceLeDiff, part, fillA, fillE, Nat.reduceLT], by simp (maxDischargeDepth := 30) only [amL, args0, Nat.reduceEqDiff, reduceCtorEq, ↓reduceIte, Nat.reduceAdd, resultsA, results1, Int.reduceNeg, splice, Nat.reduceLeDiff, part, fillA, fillE, Nat.reduceLT], by simp (maxDischargeDepth := 30) only [amL, args0, Nat.reduceEqDiff, reduceCtorEq, ↓reduceIte, Nat.reduceAdd, resultsA, results1, Int.reduceNeg, splice, Nat.reduceLeDiff, part, fillA, fillE, Nat.reduceLT]; rfl, by simp, Grow.refl _⟩
  · simp (maxDischargeDepth := 30) only [hpow, e1, Bool.false_and, amL, args0, Nat.reduceEqDiff, reduceCtorEq, ↓reduceIte, Nat.reduceAdd, resultsA, results1, Int.reduceNeg, splice, Nat.reduceLeDiff, part, fillA, fillE, Nat.reduceLT]
    exact ((Grow.refl _).app).app
theorem valid_cases {l : List Slot} (h : validB l = true) : l.length = 0 ∨ Pow l.length ∧ 0 < cnt 0 l := by
  simp only [validB, Bool.or_eq_true, Bool.and_eq_true, decide_eq_true_eq] at h
  rcases h with h | ⟨h1, h2, _⟩
  · exact .inl h
  · have := h1.le
    exact .inr ⟨h1, by omega⟩
theorem valid_len {l : List Slot} (h : validB l = true) : l.length ≤ 64 := by
  rcases valid_cases h with h | ⟨h, _⟩
  · omega
  · have := h.le; omega
theorem tSort_some {a : List V} {m : Mem} {v : V} {m' : Mem} (e : tSort a m = some (v, m')) : (a = [.nils, .fn n_ephem_All_2 [] []] ∧ v = .tup [] ∧ m' = m) ∨ ∃ b cap ex g els d, a = [.slice b 0 (List.length d) cap ex 3, .fn g [] []] ∧ m[b]? = some (.cells true els) ∧ g = n_ephem_All_2 ∧ d.length < 4611686018427387904 ∧ els.take d.length = encs d ∧ v = .tup [] ∧ m' = m.set b (.cells true (encs (srtL d) ++ els.drop d.length)) := by
  unfold tSort at e
  split at e
  · rename_i m0 b len cap ex g
    split at e
    · rename_i els hb
      split at e
      · rename_i hc
        obtain ⟨h1, h2, h3, h4⟩ := hc
        cases e
        have hl : ((els.take len).map dec).length = len := by simp; omega
        have he : encs ((els.take len).map dec) = els.take len := by
          rw [encs, List.map_map]
          conv => rhs; rw [← List.map_id (els.take len)]
          refine List.map_congr_left fun el hel => ?_
          exact enc_dec (List.all_eq_true.1 h4 el hel)
        exact .inr ⟨b, cap, ex, g, els, (els.take len).map dec, by rw [hl], hb, h1, by rw [hl]; exact h3, by rw [hl, he], rfl, by rw [hl]⟩
      · cases e
    · cases e
  · split at e
    · rename_i hg
      cases e
      exact .inl ⟨by rw [hg], rfl, rfl⟩
    · cases e
  · cases e
theorem tSort_eq {b cap : Nat} {ex : Bool} {els : List (List V)} {d : List Slot} {m : Mem} (hb : m[b]? = some (.cells true els)) (hd : d.length < 4611686018427387904) (he : els.take d.length = encs d) : tSort [.slice b 0 d.length cap ex 3, .fn n_ephem_All_2 [] []] m = some (.tup [], m.set b (.cells true (encs (srtL d) ++ els.drop d.length))) := by
  have hl : d.length ≤ els.length := by
    have := congrArg List.length he
    simp only [List.length_take, List.length_map] at this
    omega
  have ha : (els.take d.length).all isEl = true := by
    rw [he, List.all_eq_true]
    intro x hx
    obtain ⟨s, _, rfl⟩ := List.mem_map.1 hx
    rfl
  have hm : (els.take d.length).map dec = d := by
    rw [he, encs, List.map_map]
    conv => rhs; rw [← List.map_id d]
    exact List.map_congr_left fun s _ => dec_enc s
  simp only [tSort, hb, hm]
  exact if_pos ⟨trivial, hl, hd, ha⟩
end Go.AM.G.E
