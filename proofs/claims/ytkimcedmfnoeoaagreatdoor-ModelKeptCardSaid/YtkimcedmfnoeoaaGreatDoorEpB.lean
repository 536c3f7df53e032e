/- A table: is it right, and where is a key? -/
import Derived.Test.YtkimcedmfnoeoaaGreatDoorHpA
import Derived.Sort.AssemblyPlain
set_option linter.unusedVariables false
set_option linter.unusedSimpArgs false

set_option maxRecDepth 100000
namespace Go.AM.G.E
open Go Go.AM Go.AM.G
def Pow (n : Int) : Prop := n = 8 ∨ n = 16 ∨ n = 32 ∨ n = 64
instance (n : Int) : Decidable (Pow n) := inferInstanceAs (Decidable (_ ∨ _))
theorem pow_and (n : Int) (h : 8 ≤ n) (h' : n ≤ 64) : (IntKind.i64.wrap ↑(BitVec.ofInt IntKind.i64.bits n &&& BitVec.ofInt IntKind.i64.bits (IntKind.i64.wrap (n - 1))).toNat = 0) ↔ Pow n := by
  obtain ⟨k, rfl⟩ : ∃ k : Fin 57, n = 8 + (k : Nat) := ⟨⟨(n - 8).toNat, by omega⟩, by simp; omega⟩
  revert k
  unfold Pow
  decide +kernel
theorem sized_spec (n : Int) (m : Mem) : C S n_ephem_sized [.int .i64 n] m (fun v m' => v = .bool (decide (Pow n)) ∧ m = m') := by
  refine C_body rfl rfl rfl ?_
  unfold ephem_sized
  simp (maxDischargeDepth := 30) only [amL, args0, Nat.reduceEqDiff, reduceCtorEq, ↓reduceIte, Nat.reduceAdd, resultsA, results1, Int.reduceNeg, splice, Nat.reduceLeDiff, part, fillA, fillE, Nat.reduceLT]
  first | (refine O_split (by simp only [put_apply, Nat.reduceEqDiff, ↓reduceIte, reduceCtorEq]; rfl) (fun h => ?_) (fun h => ?_) <;> simp only [decide_eq_true_eq, decide_eq_false_iff_not, Decidable.not_not, Bool.and_eq_true, Bool.not_eq_true', Bool.not_eq_false'] at h) | (refine W_split (by simp only [get_t, put_apply, Nat.reduceEqDiff, ↓reduceIte, reduceCtorEq]; rfl) (fun h => ?_) (fun h => ?_) <;> simp only [decide_eq_true_eq, decide_eq_false_iff_not, Decidable.not_not, Bool.and_eq_true, Bool.not_eq_true', Bool.not_eq_false'] at h)
  · simp (maxDischargeDepth := 30) only [h, amL, args0, Nat.reduceEqDiff, reduceCtorEq, ↓reduceIte, Nat.reduceAdd, resultsA, results1, Int.reduceNeg, splice, Nat.reduceLeDiff, part, fillA, fillE, Nat.reduceLT]
    first | (refine O_split (by simp only [put_apply, Nat.reduceEqDiff, ↓reduceIte, reduceCtorEq]; rfl) (fun h' => ?_) (fun h' => ?_) <;> simp only [decide_eq_true_eq, decide_eq_false_iff_not, Decidable.not_not, Bool.and_eq_true, Bool.not_eq_true', Bool.not_eq_false'] at h') | (refine W_split (by simp only [get_t, put_apply, Nat.reduceEqDiff, ↓reduceIte, reduceCtorEq]; rfl) (fun h' => ?_) (fun h' => ?_) <;> simp only [decide_eq_true_eq, decide_eq_false_iff_not, Decidable.not_not, Bool.and_eq_true, Bool.not_eq_true', Bool.not_eq_false'] at h')
    · simp (maxDischargeDepth := 30) only [h', pow_and n h h', amL, args0, Nat.reduceEqDiff, reduceCtorEq, ↓reduceIte, Nat.reduceAdd, resultsA, results1, Int.reduceNeg, splice, Nat.reduceLeDiff, part, fillA, fillE, Nat.reduceLT]
    · have : ¬ Pow n := by unfold Pow; omega
      simp (maxDischargeDepth := 30) only [h', this, amL, args0, Nat.reduceEqDiff, reduceCtorEq, ↓reduceIte, Nat.reduceAdd, resultsA, results1, Int.reduceNeg, splice, Nat.reduceLeDiff, part, fillA, fillE, Nat.reduceLT]
  · have : ¬ Pow n := by unfold Pow; omega
    simp (maxDischargeDepth := 30) only [h, this, amL, args0, Nat.reduceEqDiff, reduceCtorEq, ↓reduceIte, Nat.reduceAdd, resultsA, results1, Int.reduceNeg, splice, Nat.reduceLeDiff, part, fillA, fillE, Nat.reduceLT]
def homeI (key n : Int) : Int := IntKind.i64.wrap ((IntKind.u64.wrap (key * 11400714819323198485)).fdiv (2 ^ (65 - bitLen n).toNat))
theorem home_spec (key n : Int) (m : Mem) (hn : Pow n) : C S n_ephem_home [.int .u64 key, .int .i64 n] m (fun v m' => v = .int .i64 (homeI key n) ∧ m = m') := by
  refine C_body rfl rfl rfl ?_
  unfold ephem_home
  simp (maxDischargeDepth := 30) only [amL, args0, Nat.reduceEqDiff, reduceCtorEq, ↓reduceIte, Nat.reduceAdd, resultsA, results1, Int.reduceNeg, splice, Nat.reduceLeDiff, part, fillA, fillE, Nat.reduceLT]
  have hcall : S.call 1 n_math_bits_Len [.int .u64 (IntKind.u64.wrap n)] m = some (.int .i64 (bitLen (IntKind.u64.wrap n)), m) := by
    rcases hn with rfl | rfl | rfl | rfl <;> rfl
  refine ⟨1, _, _, hcall, ?_⟩
  simp (maxDischargeDepth := 30) only [aft_mk, amL, args0, Nat.reduceEqDiff, reduceCtorEq, ↓reduceIte, Nat.reduceAdd, resultsA, results1, Int.reduceNeg, splice, Nat.reduceLeDiff, part, fillA, fillE, Nat.reduceLT]
  have : shI .shr .u64 (IntKind.u64.wrap (key * 11400714819323198485)) (IntKind.i64.wrap (65 - bitLen (IntKind.u64.wrap n))) = some (.int .u64 ((IntKind.u64.wrap (key * 11400714819323198485)).fdiv (2 ^ (65 - bitLen n).toNat))) := by
    rcases hn with rfl | rfl | rfl | rfl <;> rfl
  simp (maxDischargeDepth := 30) only [this, amL, args0, Nat.reduceEqDiff, reduceCtorEq, ↓reduceIte, Nat.reduceAdd, resultsA, results1, Int.reduceNeg, splice, Nat.reduceLeDiff, part, fillA, fillE, Nat.reduceLT]
  rfl
def cnt (st : Int) (l : List Slot) : Nat := l.countP (fun s => s.st = st)
theorem cnt_succ {st : Int} {l : List Slot} {i : Nat} {s : Slot} (h : l[i]? = some s) : cnt st (l.take (i + 1)) = cnt st (l.take i) + (if s.st = st then 1 else 0) := by
  obtain ⟨hi, e⟩ := List.getElem?_eq_some_iff.1 h
  rw [List.take_succ_eq_append_getElem hi, e]
  simp [cnt, List.countP_append, List.countP_cons]
theorem cnt_le (st : Int) (l : List Slot) : cnt st l ≤ l.length := List.countP_le_length
theorem encs_get {l : List Slot} {i : Nat} {s : Slot} (h : l[i]? = some s) : (encs l)[i]? = some (enc s) := by simp [h]
theorem many_spec {m : Mem} {p v : V} {l : List Slot} (st : Int) (hp : loadV m none p = some v) (hpp : asPtr 0 p = some p) (hv : Sl m v 3 (encs l)) (hl : l.length < 2 ^ 62) : C S n_ephem_table_many [p, .int .u8 st] m (fun v m' => v = .int .i64 (cnt st l) ∧ Grow m m') := by
  refine C_body rfl rfl rfl ?_
  unfold ephem_table_many
  have hlen : (encs l).length = l.length := by simp
  simp (maxDischargeDepth := 30) only [hp, hpp, hv.len, amL, args0, Nat.reduceEqDiff, reduceCtorEq, ↓reduceIte, Nat.reduceAdd, resultsA, results1, Int.reduceNeg, splice, Nat.reduceLeDiff, part, fillA, fillE, Nat.reduceLT]
  let I := fun (k : Nat) (fr : Frame) (M : Mem) => ∃ i : Nat, i ≤ l.length ∧ k = l.length - i ∧ fr 1 = .int .u8 st ∧ fr 12 = v ∧ fr 13 = .int .i64 l.length ∧ fr 14 = .int .i64 i ∧ fr 5 = .int .i64 (cnt st (l.take i)) ∧ Grow m M
  refine W_loop I ?_ l.length ?_
  · rintro k fr M ⟨i, hi, rfl, h1, h12, h13, h14, h5, hg⟩
    unfold ephem_table_many_l0
    simp (maxDischargeDepth := 30) only [h1, h12, h13, h14, h5, amL, args0, Nat.reduceEqDiff, reduceCtorEq, ↓reduceIte, Nat.reduceAdd, resultsA, results1, Int.reduceNeg, splice, Nat.reduceLeDiff, part, fillA, fillE, Nat.reduceLT]
    first | (refine O_split (by simp only [put_apply, Nat.reduceEqDiff, ↓reduceIte, reduceCtorEq]; rfl) (fun h => ?_) (fun h => ?_) <;> simp only [decide_eq_true_eq, decide_eq_false_iff_not, Decidable.not_not, Bool.and_eq_true, Bool.not_eq_true', Bool.not_eq_false'] at h) | (refine W_split (by simp only [get_t, put_apply, Nat.reduceEqDiff, ↓reduceIte, reduceCtorEq]; rfl) (fun h => ?_) (fun h => ?_) <;> simp only [decide_eq_true_eq, decide_eq_false_iff_not, Decidable.not_not, Bool.and_eq_true, Bool.not_eq_true', Bool.not_eq_false'] at h)
    · have hil : i < l.length := by omega
      obtain ⟨s, hs⟩ : ∃ s, l[i]? = some s := ⟨_, List.getElem?_eq_getElem hil⟩
      have hcs := cnt_succ (st := st) hs
      have hcl := cnt_le st (l.take i)
      have hsl := hv.grow hg
      rw [List.length_take] at hcl
      have w1 : IntKind.i64.wrap ((i : Int) + 1) = ((i + 1 : Nat) : Int) := by rw [wrap_i64] <;> omega
      have w2 : IntKind.i64.wrap ((cnt st (l.take i) : Int) + 1) = ((cnt st (l.take i) + 1 : Nat) : Int) := by rw [wrap_i64] <;> omega
      simp (maxDischargeDepth := 30) only [h, h1, h12, h13, h14, h5, hsl.index (ki := .i64) (n := i) (by omega) (by omega), hsl.load (encs_get hs), enc, amL, args0, Nat.reduceEqDiff, reduceCtorEq, ↓reduceIte, Nat.reduceAdd, resultsA, results1, Int.reduceNeg, splice, Nat.reduceLeDiff, part, fillA, fillE, Nat.reduceLT]
      first | (refine O_split (by simp only [put_apply, Nat.reduceEqDiff, ↓reduceIte, reduceCtorEq]; rfl) (fun h' => ?_) (fun h' => ?_) <;> simp only [decide_eq_true_eq, decide_eq_false_iff_not, Decidable.not_not, Bool.and_eq_true, Bool.not_eq_true', Bool.not_eq_false'] at h') | (refine W_split (by simp only [get_t, put_apply, Nat.reduceEqDiff, ↓reduceIte, reduceCtorEq]; rfl) (fun h' => ?_) (fun h' => ?_) <;> simp only [decide_eq_true_eq, decide_eq_false_iff_not, Decidable.not_not, Bool.and_eq_true, Bool.not_eq_true', Bool.not_eq_false'] at h')
      · simp (maxDischargeDepth := 30) only [h1, h12, h13, h14, h5, w1, w2, amL, args0, Nat.reduceEqDiff, reduceCtorEq, ↓reduceIte, Nat.reduceAdd, resultsA, results1, Int.reduceNeg, splice, Nat.reduceLeDiff, part, fillA, fillE, Nat.reduceLT]
        refine ⟨_, ?_, i + 1, by omega, rfl, ?_, ?_, ?_, ?_, ?_, hg.app⟩
        · omega
        all_goals simp (maxDischargeDepth := 30) only [h1, h12, h13, h14, h5, amL, args0, Nat.reduceEqDiff, reduceCtorEq, ↓reduceIte, Nat.reduceAdd, resultsA, results1, Int.reduceNeg, splice, Nat.reduceLeDiff, part, fillA, fillE, Nat.reduceLT]
        rw [hcs, if_pos h']
      · simp (maxDischargeDepth := 30) only [h1, h12, h13, h14, h5, w1, w2, amL, args0, Nat.reduceEqDiff, reduceCtorEq, ↓reduceIte, Nat.reduceAdd, resultsA, results1, Int.reduceNeg, splice, Nat.reduceLeDiff, part, fillA, fillE, Nat.reduceLT]
        refine ⟨_, ?_, i + 1, by omega, rfl, ?_, ?_, ?_, ?_, ?_, hg.app⟩
        · omega
        all_goals simp (maxDischargeDepth := 30) only [h1, h12, h13, h14, h5, amL, args0, Nat.reduceEqDiff, reduceCtorEq, ↓reduceIte, Nat.reduceAdd, resultsA, results1, Int.reduceNeg, splice, Nat.reduceLeDiff, part, fillA, fillE, Nat.reduceLT]
        rw [hcs, if_neg h']
        rfl
    · simp (maxDischargeDepth := 30) only [h, h1, h12, h13, h14, h5, amL, args0, Nat.reduceEqDiff, reduceCtorEq, ↓reduceIte, Nat.reduceAdd, resultsA, results1, Int.reduceNeg, splice, Nat.reduceLeDiff, part, fillA, fillE, Nat.reduceLT]
      have : l.take i = l := List.take_of_length_le (by omega)
      rw [this]
      exact ⟨rfl, hg⟩
  · exact ⟨0, by omega, rfl, by simp (maxDischargeDepth := 30) only [amL, args0, Nat.reduceEqDiff, reduceCtorEq, ↓reduceIte, Nat.reduceAdd, resultsA, results1, Int.reduceNeg, splice, Nat.reduceLeDiff, part, fillA, fillE, Nat.reduceLT], by simp (maxDischargeDepth := 30) only [amL, args0, Nat.reduceEqDiff, reduceCtorEq, ↓reduceIte, Nat.reduceAdd, resultsA, results1, Int.reduceNeg, splice, Nat.reduceLeDiff, part, fillA, fillE, Nat.reduceLT], by simp (maxDischargeDepth := 30) only [hlen, amL, args0, Nat.reduceEqDiff, reduceCtorEq, ↓reduceIte, Nat.reduceAdd, resultsA, results1, Int.reduceNeg, splice, Nat.reduceLeDiff, part, fillA, fillE, Nat.reduceLT], by simp (maxDischargeDepth := 30) only [amL, args0, Nat.reduceEqDiff, reduceCtorEq, ↓reduceIte, Nat.reduceAdd, resultsA, results1, Int.reduceNeg, splice, Nat.reduceLeDiff, part, fillA, fillE, Nat.reduceLT]; rfl, by simp (maxDischargeDepth := 30) only [amL, args0, Nat.reduceEqDiff, reduceCtorEq, ↓reduceIte, Nat.reduceAdd, resultsA, results1, Int.reduceNeg, splice, Nat.reduceLeDiff, part, fillA, fillE, Nat.reduceLT]; rfl, Grow.refl _⟩
def findF (l : List Slot) (key : Int) : Nat → Nat → Option Nat → Nat × Bool
  | 0, i, _ => (i, false)
  | f + 1, i, g => match l[i]? with
    | none => (i, false)
    | some s => if s.st = 0 then (g.getD i, false) else if s.st = 1 ∧ s.key = key then (i, true) else findF l key f ((i + 1) % l.length) (if s.st = 2 ∧ g = none then some i else g)
def findL (l : List Slot) (key : Int) : Nat × Bool := if l.length = 0 then (0, false) else findF l key l.length (homeI key l.length).toNat none
theorem home_range {key n : Int} (h : Pow n) : 0 ≤ homeI key n ∧ homeI key n < n := by
  have h0 : ∀ x : Int, 0 ≤ IntKind.u64.wrap x ∧ IntKind.u64.wrap x < 18446744073709551616 := fun x => by rw [IntKind.wrap_u64]; omega
  obtain ⟨a, b⟩ := h0 (key * 11400714819323198485)
  unfold homeI
  have e : ∀ k : Nat, (2 : Int) ^ k ∣ 2 ^ k := fun k => Int.dvd_refl _
  rcases h with rfl | rfl | rfl | rfl
  · rw [show (65 - bitLen 8).toNat = 61 from rfl, Int.fdiv_eq_ediv_of_nonneg _ (by decide), wrap_i64] <;> omega
  · rw [show (65 - bitLen 16).toNat = 60 from rfl, Int.fdiv_eq_ediv_of_nonneg _ (by decide), wrap_i64] <;> omega
  · rw [show (65 - bitLen 32).toNat = 59 from rfl, Int.fdiv_eq_ediv_of_nonneg _ (by decide), wrap_i64] <;> omega
  · rw [show (65 - bitLen 64).toNat = 58 from rfl, Int.fdiv_eq_ediv_of_nonneg _ (by decide), wrap_i64] <;> omega
def goneI : Option Nat → Int
  | none => -1
  | some i => i
theorem Pow.le {n : Int} (h : Pow n) : 8 ≤ n ∧ n ≤ 64 := by unfold Pow at h; omega
theorem exists_free {l : List Slot} (h : 0 < cnt 0 l) : ∃ (j : Nat) (s : Slot), l[j]? = some s ∧ s.st = 0 := by
  unfold cnt at h
  obtain ⟨s, hs, h0⟩ := List.countP_pos_iff.1 h
  obtain ⟨j, hj⟩ := List.getElem?_of_mem hs
  exact ⟨j, s, hj, by simpa using h0⟩
theorem find_spec {m : Mem} {p v : V} {l : List Slot} (key : Int) (hp0 : loadV m none p = some v) (hpp : asPtr 0 p = some p) (hv : Sl m v 3 (encs l)) (hl : l.length = 0 ∨ Pow l.length ∧ 0 < cnt 0 l) : C S n_ephem_table_find [p, .int .u64 key] m (fun v m' => v = .tup [.int .i64 (findL l key).1, .bool (findL l key).2] ∧ Grow m m') := by
  refine C_body rfl rfl rfl ?_
  unfold ephem_table_find
  have hp := fun g => loadV_some (g := g) hp0
  have hlen : (encs l).length = l.length := by simp
  simp (maxDischargeDepth := 30) only [hp0, hpp, hv.len, hlen, amL, args0, Nat.reduceEqDiff, reduceCtorEq, ↓reduceIte, Nat.reduceAdd, resultsA, results1, Int.reduceNeg, splice, Nat.reduceLeDiff, part, fillA, fillE, Nat.reduceLT]
  first | (refine O_split (by simp only [put_apply, Nat.reduceEqDiff, ↓reduceIte, reduceCtorEq]; rfl) (fun h0 => ?_) (fun h0 => ?_) <;> simp only [decide_eq_true_eq, decide_eq_false_iff_not, Decidable.not_not, Bool.and_eq_true, Bool.not_eq_true', Bool.not_eq_false'] at h0) | (refine W_split (by simp only [get_t, put_apply, Nat.reduceEqDiff, ↓reduceIte, reduceCtorEq]; rfl) (fun h0 => ?_) (fun h0 => ?_) <;> simp only [decide_eq_true_eq, decide_eq_false_iff_not, Decidable.not_not, Bool.and_eq_true, Bool.not_eq_true', Bool.not_eq_false'] at h0)
  · have h00 : l.length = 0 := by omega
    simp (maxDischargeDepth := 30) only [findL, h00, amL, args0, Nat.reduceEqDiff, reduceCtorEq, ↓reduceIte, Nat.reduceAdd, resultsA, results1, Int.reduceNeg, splice, Nat.reduceLeDiff, part, fillA, fillE, Nat.reduceLT]
    exact ⟨rfl, Grow.refl _⟩
  have h00 : ¬ l.length = 0 := by omega
  obtain ⟨hpow, hfree⟩ : Pow l.length ∧ 0 < cnt 0 l := by rcases hl with h | h; omega; exact h
  have hn := hpow.le
  obtain ⟨hh0, hh1⟩ := home_range (key := key) hpow
  simp (maxDischargeDepth := 30) only [amL, args0, Nat.reduceEqDiff, reduceCtorEq, ↓reduceIte, Nat.reduceAdd, resultsA, results1, Int.reduceNeg, splice, Nat.reduceLeDiff, part, fillA, fillE, Nat.reduceLT]
  refine (home_spec key l.length m hpow).mono ?_
  rintro _ _ ⟨rfl, rfl⟩
  simp (maxDischargeDepth := 30) only [aft_mk, amL, args0, Nat.reduceEqDiff, reduceCtorEq, ↓reduceIte, Nat.reduceAdd, resultsA, results1, Int.reduceNeg, splice, Nat.reduceLeDiff, part, fillA, fillE, Nat.reduceLT]
  obtain ⟨j0, s0, hj0, hs0⟩ := exists_free hfree
  have hjl := (List.getElem?_eq_some_iff.1 hj0).1
  let I := fun (k : Nat) (fr : Frame) (M : Mem) => ∃ (i f : Nat) (g : Option Nat), i < l.length ∧ (i + k) % l.length = j0 ∧ k < f ∧ fr 0 = p ∧ fr 1 = .int .u64 key ∧ fr 6 = .int .i64 l.length ∧ fr 8 = .int .i64 i ∧ fr 7 = .int .i64 (goneI g) ∧ findF l key f i g = findL l key ∧ Grow m M
  have hM : ∀ {M}, Grow m M → loadV M none p = some v := by rintro _ ⟨g, rfl⟩; exact hp g
  refine W_loop I ?_ ((j0 + l.length - (homeI key l.length).toNat) % l.length) ?_
  · rintro k fr M ⟨i, f, g, hi, hk, hf, h0, h1, h6, h8, h7, hT, hg⟩
    obtain ⟨s, hs⟩ : ∃ s, l[i]? = some s := ⟨_, List.getElem?_eq_getElem hi⟩
    have hsl := hv.grow hg
    obtain ⟨f, rfl⟩ : ∃ f', f = f' + 1 := ⟨f - 1, by omega⟩
    simp only [findF, hs] at hT
    unfold ephem_table_find_l0
    have ix := hsl.index (ki := .i64) (n := i) (by omega) (by omega)
    have ld := fun o k => hsl.load (o := o) (k := k) (encs_get hs)
    simp only [Int.toNat_natCast, enc] at ix ld
    have w1 : IntKind.i64.wrap ((i : Int) + 1) = ((i + 1 : Nat) : Int) := by rw [wrap_i64] <;> omega
    have w2 : ((i + 1 : Nat) : Int).tmod l.length = (((i + 1) % l.length : Nat) : Int) := by rw [Int.tmod_eq_emod_of_nonneg (by omega)]; omega
    have w3 : ¬ ((l.length : Int) = 0) := by omega
    by_cases hz : s.st = 0
    · rw [if_pos hz] at hT
      have hT1 : (findL l key).1 = g.getD i := by rw [← hT]
      have hT2 : (findL l key).2 = false := by rw [← hT]
      cases g with
      | none =>
        simp only [goneI] at h7
        have c : ¬ ((0 : Int) ≤ -1) := by omega
        simp (maxDischargeDepth := 30) only [h0, h1, h6, h8, h7, hpp, hM hg, ix, ld, hz, c, hT1, hT2, Option.getD_none, amL, args0, Nat.reduceEqDiff, reduceCtorEq, ↓reduceIte, Nat.reduceAdd, resultsA, results1, Int.reduceNeg, splice, Nat.reduceLeDiff, part, fillA, fillE, Nat.reduceLT]
        exact hg
      | some y =>
        simp only [goneI] at h7
        have c : (0 : Int) ≤ y := by omega
        simp (maxDischargeDepth := 30) only [h0, h1, h6, h8, h7, hpp, hM hg, ix, ld, hz, c, hT1, hT2, Option.getD_some, amL, args0, Nat.reduceEqDiff, reduceCtorEq, ↓reduceIte, Nat.reduceAdd, resultsA, results1, Int.reduceNeg, splice, Nat.reduceLeDiff, part, fillA, fillE, Nat.reduceLT]
        exact hg
    rw [if_neg hz] at hT
    by_cases h1k : s.st = 1 ∧ s.key = key
    · rw [if_pos h1k] at hT
      obtain ⟨h1s, hk1⟩ := h1k
      have hT1 : (findL l key).1 = i := by rw [← hT]
      have hT2 : (findL l key).2 = true := by rw [← hT]
      have c : ¬ ((1 : Int) = 0) := by omega
      simp (maxDischargeDepth := 30) only [h0, h1, h6, h8, h7, hpp, hM hg, ix, ld, h1s, hk1, c, hT1, hT2, amL, args0, Nat.reduceEqDiff, reduceCtorEq, ↓reduceIte, Nat.reduceAdd, resultsA, results1, Int.reduceNeg, splice, Nat.reduceLeDiff, part, fillA, fillE, Nat.reduceLT]
      exact hg.app
    rw [if_neg h1k] at hT
    have hk1 : 1 ≤ k := by
      rcases Nat.eq_zero_or_pos k with h | h
      · subst h
        rw [Nat.add_zero, Nat.mod_eq_of_lt hi] at hk
        subst hk
        rw [hj0] at hs
        cases hs
        exact absurd hs0 hz
      · exact h
    have hnext : (i + 1) % l.length < l.length := Nat.mod_lt _ (by omega)
    have hnk : ((i + 1) % l.length + (k - 1)) % l.length = j0 := by
      rw [Nat.mod_add_mod, ← hk]; congr 1; omega
    have fin : ∀ (fr' : Frame) (g' : Option Nat), fr' 0 = p → fr' 1 = .int .u64 key → fr' 6 = .int .i64 l.length → fr' 8 = .int .i64 ((i + 1) % l.length : Nat) → fr' 7 = .int .i64 (goneI g') → findF l key f ((i + 1) % l.length) g' = findL l key → ∀ M' : Mem, Grow m M' → ∃ j, j < k ∧ I j fr' M' := fun fr' g' a0 a1 a6 a8 a7 aT M' hM' => ⟨k - 1, by omega, (i + 1) % l.length, f, g', hnext, hnk, by omega, a0, a1, a6, a8, a7, aT, hM'⟩
    by_cases h1s : s.st = 1
    · have hkk : ¬ s.key = key := fun e => h1k ⟨h1s, e⟩
      have c : ¬ ((1 : Int) = 0) := by omega
      have c2 : ¬ ((1 : Int) = 2) := by omega
      rw [if_neg (by rw [h1s]; omega)] at hT
      simp (maxDischargeDepth := 30) only [h0, h1, h6, h8, h7, hpp, hM hg, ix, ld, h1s, hkk, c, c2, w1, w2, w3, amL, args0, Nat.reduceEqDiff, reduceCtorEq, ↓reduceIte, Nat.reduceAdd, resultsA, results1, Int.reduceNeg, splice, Nat.reduceLeDiff, part, fillA, fillE, Nat.reduceLT]
      refine fin _ g ?_ ?_ ?_ ?_ ?_ hT _ hg.app
      all_goals simp (maxDischargeDepth := 30) only [h0, h1, h6, h8, h7, amL, args0, Nat.reduceEqDiff, reduceCtorEq, ↓reduceIte, Nat.reduceAdd, resultsA, results1, Int.reduceNeg, splice, Nat.reduceLeDiff, part, fillA, fillE, Nat.reduceLT]
    by_cases h2s : s.st = 2
    · have c : ¬ ((2 : Int) = 0) := by omega
      have c2 : ¬ ((2 : Int) = 1) := by omega
      cases g with
      | none =>
        rw [if_pos ⟨h2s, rfl⟩] at hT
        simp only [goneI] at h7
        have c3 : (-1 : Int) < 0 := by omega
        simp (maxDischargeDepth := 30) only [h0, h1, h6, h8, h7, hpp, hM hg, ix, ld, h2s, c, c2, c3, w1, w2, w3, amL, args0, Nat.reduceEqDiff, reduceCtorEq, ↓reduceIte, Nat.reduceAdd, resultsA, results1, Int.reduceNeg, splice, Nat.reduceLeDiff, part, fillA, fillE, Nat.reduceLT]
        refine fin _ (some i) ?_ ?_ ?_ ?_ ?_ hT _ hg.app
        all_goals simp (maxDischargeDepth := 30) only [h0, h1, h6, h8, h7, amL, args0, Nat.reduceEqDiff, reduceCtorEq, ↓reduceIte, Nat.reduceAdd, resultsA, results1, Int.reduceNeg, splice, Nat.reduceLeDiff, part, fillA, fillE, Nat.reduceLT]
        rfl
      | some y =>
        rw [if_neg (by simp)] at hT
        simp only [goneI] at h7
        have c3 : ¬ ((y : Int) < 0) := by omega
        simp (maxDischargeDepth := 30) only [h0, h1, h6, h8, h7, hpp, hM hg, ix, ld, h2s, c, c2, c3, w1, w2, w3, amL, args0, Nat.reduceEqDiff, reduceCtorEq, ↓reduceIte, Nat.reduceAdd, resultsA, results1, Int.reduceNeg, splice, Nat.reduceLeDiff, part, fillA, fillE, Nat.reduceLT]
        refine fin _ (some y) ?_ ?_ ?_ ?_ ?_ hT _ hg.app
        all_goals simp (maxDischargeDepth := 30) only [h0, h1, h6, h8, h7, amL, args0, Nat.reduceEqDiff, reduceCtorEq, ↓reduceIte, Nat.reduceAdd, resultsA, results1, Int.reduceNeg, splice, Nat.reduceLeDiff, part, fillA, fillE, Nat.reduceLT]
        rfl
    · rw [if_neg (fun e => h2s e.1)] at hT
      simp (maxDischargeDepth := 30) only [h0, h1, h6, h8, h7, hpp, hM hg, ix, ld, hz, h1s, h2s, w1, w2, w3, amL, args0, Nat.reduceEqDiff, reduceCtorEq, ↓reduceIte, Nat.reduceAdd, resultsA, results1, Int.reduceNeg, splice, Nat.reduceLeDiff, part, fillA, fillE, Nat.reduceLT]
      refine fin _ g ?_ ?_ ?_ ?_ ?_ hT _ hg.app
      all_goals simp (maxDischargeDepth := 30) only [h0, h1, h6, h8, h7, amL, args0, Nat.reduceEqDiff, reduceCtorEq, ↓reduceIte, Nat.reduceAdd, resultsA, results1, Int.reduceNeg, splice, Nat.reduceLeDiff, part, fillA, fillE, Nat.reduceLT]
  · refine ⟨(homeI key l.length).toNat, l.length, none, by omega, ?_, Nat.mod_lt _ (by omega), by simp (maxDischargeDepth := 30) only [amL, args0, Nat.reduceEqDiff, reduceCtorEq, ↓reduceIte, Nat.reduceAdd, resultsA, results1, Int.reduceNeg, splice, Nat.reduceLeDiff, part, fillA, fillE, Nat.reduceLT], by simp (maxDischargeDepth := 30) only [amL, args0, Nat.reduceEqDiff, reduceCtorEq, ↓reduceIte, Nat.reduceAdd, resultsA, results1, Int.reduceNeg, splice, Nat.reduceLeDiff, part, fillA, fillE, Nat.reduceLT], by simp (maxDischargeDepth := 30) only [amL, args0, Nat.reduceEqDiff, reduceCtorEq, ↓reduceIte, Nat.reduceAdd, resultsA, results1, Int.reduceNeg, splice, Nat.reduceLeDiff, part, fillA, fillE, Nat.reduceLT], ?_, by simp (maxDischargeDepth := 30) only [amL, args0, Nat.reduceEqDiff, reduceCtorEq, ↓reduceIte, Nat.reduceAdd, resultsA, results1, Int.reduceNeg, splice, Nat.reduceLeDiff, part, fillA, fillE, Nat.reduceLT]; rfl, ?_, Grow.refl _⟩
    · have h1 : (homeI key l.length).toNat < l.length := by omega
      rw [Nat.add_mod_mod]
      have : (homeI key l.length).toNat + (j0 + l.length - (homeI key l.length).toNat) = j0 + l.length := by omega
      rw [this, Nat.add_mod_right, Nat.mod_eq_of_lt hjl]
    · simp (maxDischargeDepth := 30) only [amL, args0, Nat.reduceEqDiff, reduceCtorEq, ↓reduceIte, Nat.reduceAdd, resultsA, results1, Int.reduceNeg, splice, Nat.reduceLeDiff, part, fillA, fillE, Nat.reduceLT]
      omega
    · simp only [findL, if_neg h00]
def okS (l : List Slot) (i : Nat) (s : Slot) : Bool := decide (s.st < 3) && (if s.st = 1 then decide (s.key ≠ 0) && decide (findL l s.key = (i, true)) else decide (s.key = 0 ∧ s.val = 0))
def okFrom (l : List Slot) : Nat → List Slot → Bool
  | _, [] => true
  | i, s :: r => okS l i s && okFrom l (i + 1) r
def validB (l : List Slot) : Bool := decide (l.length = 0) || (decide (Pow l.length) && (decide (l.length ≤ 4 * cnt 0 l) && okFrom l 0 l))
theorem okFrom_drop {l : List Slot} {i : Nat} {s : Slot} (h : l[i]? = some s) : okFrom l i (l.drop i) = (okS l i s && okFrom l (i + 1) (l.drop (i + 1))) := by
  obtain ⟨hi, e⟩ := List.getElem?_eq_some_iff.1 h
  rw [List.drop_eq_getElem_cons hi, e]
  rfl
theorem Check_spec {m : Mem} {v : V} {l : List Slot} (hv : Sl m v 3 (encs l)) (hlt : l.length < 2 ^ 60) : C S n_ephem_Check [.agg [v]] m (fun r m' => r = .int .i64 (if validB l = true then 0 else 2) ∧ Grow m m') := by
  refine C_body rfl rfl rfl ?_
  unfold ephem_Check
  have hlen : (encs l).length = l.length := by simp
  have hcell := hv.cell
  simp (maxDischargeDepth := 30) only [hv.len, hcell, hlen, amL, args0, Nat.reduceEqDiff, reduceCtorEq, ↓reduceIte, Nat.reduceAdd, resultsA, results1, Int.reduceNeg, splice, Nat.reduceLeDiff, part, fillA, fillE, Nat.reduceLT]
  first | (refine O_split (by simp only [put_apply, Nat.reduceEqDiff, ↓reduceIte, reduceCtorEq]; rfl) (fun h0 => ?_) (fun h0 => ?_) <;> simp only [decide_eq_true_eq, decide_eq_false_iff_not, Decidable.not_not, Bool.and_eq_true, Bool.not_eq_true', Bool.not_eq_false'] at h0) | (refine W_split (by simp only [get_t, put_apply, Nat.reduceEqDiff, ↓reduceIte, reduceCtorEq]; rfl) (fun h0 => ?_) (fun h0 => ?_) <;> simp only [decide_eq_true_eq, decide_eq_false_iff_not, Decidable.not_not, Bool.and_eq_true, Bool.not_eq_true', Bool.not_eq_false'] at h0)
  · have : l.length = 0 := by omega
    simp (maxDischargeDepth := 30) only [validB, this, Bool.true_or, amL, args0, Nat.reduceEqDiff, reduceCtorEq, ↓reduceIte, Nat.reduceAdd, resultsA, results1, Int.reduceNeg, splice, Nat.reduceLeDiff, part, fillA, fillE, Nat.reduceLT]
    exact ((Grow.refl _).app).app
  have h00 : ¬ l.length = 0 := by omega
  have e1 : validB l = (decide (Pow l.length) && (decide (l.length ≤ 4 * cnt 0 l) && okFrom l 0 l)) := by simp [validB, h00]
  simp (maxDischargeDepth := 30) only [amL, args0, Nat.reduceEqDiff, reduceCtorEq, ↓reduceIte, Nat.reduceAdd, resultsA, results1, Int.reduceNeg, splice, Nat.reduceLeDiff, part, fillA, fillE, Nat.reduceLT]
  refine (sized_spec l.length _).mono ?_
  rintro _ _ ⟨rfl, rfl⟩
  simp (maxDischargeDepth := 30) only [aft_mk, amL, args0, Nat.reduceEqDiff, reduceCtorEq, ↓reduceIte, Nat.reduceAdd, resultsA, results1, Int.reduceNeg, splice, Nat.reduceLeDiff, part, fillA, fillE, Nat.reduceLT]
  by_cases hpow : Pow l.length
  · have hpl := hpow.le
    simp (maxDischargeDepth := 30) only [hpow, amL, args0, Nat.reduceEqDiff, reduceCtorEq, ↓reduceIte, Nat.reduceAdd, resultsA, results1, Int.reduceNeg, splice, Nat.reduceLeDiff, part, fillA, fillE, Nat.reduceLT]
    refine (many_spec (v := v) (l := l) 0 (by simp (maxDischargeDepth := 30) only [amL, args0, Nat.reduceEqDiff, reduceCtorEq, ↓reduceIte, Nat.reduceAdd, resultsA, results1, Int.reduceNeg, splice, Nat.reduceLeDiff, part, fillA, fillE, Nat.reduceLT]) (by simp (maxDischargeDepth := 30) only [amL, args0, Nat.reduceEqDiff, reduceCtorEq, ↓reduceIte, Nat.reduceAdd, resultsA, results1, Int.reduceNeg, splice, Nat.reduceLeDiff, part, fillA, fillE, Nat.reduceLT]) hv.app.app (by omega)).mono ?_
    rintro _ _ ⟨rfl, g, rfl⟩
    have hcl := cnt_le 0 l
    have w1 : IntKind.i64.wrap (4 * (cnt 0 l : Int)) = 4 * (cnt 0 l : Int) := by rw [wrap_i64] <;> omega
    simp (maxDischargeDepth := 30) only [aft_mk, w1, hpow, hcell, amL, args0, Nat.reduceEqDiff, reduceCtorEq, ↓reduceIte, Nat.reduceAdd, resultsA, results1, Int.reduceNeg, splice, Nat.reduceLeDiff, part, fillA, fillE, Nat.reduceLT]
    first | (refine O_split (by simp only [put_apply, Nat.reduceEqDiff, ↓reduceIte, reduceCtorEq]; rfl) (fun h1 => ?_) (fun h1 => ?_) <;> simp only [decide_eq_true_eq, decide_eq_false_iff_not, Decidable.not_not, Bool.and_eq_true, Bool.not_eq_true', Bool.not_eq_false'] at h1) | (refine W_split (by simp only [get_t, put_apply, Nat.reduceEqDiff, ↓reduceIte, reduceCtorEq]; rfl) (fun h1 => ?_) (fun h1 => ?_) <;> simp only [decide_eq_true_eq, decide_eq_false_iff_not, Decidable.not_not, Bool.and_eq_true, Bool.not_eq_true', Bool.not_eq_false'] at h1)
    · have : ¬ l.length ≤ 4 * cnt 0 l := by omega
      simp (maxDischargeDepth := 30) only [e1, this, Bool.false_and, Bool.and_false, amL, args0, Nat.reduceEqDiff, reduceCtorEq, ↓reduceIte, Nat.reduceAdd, resultsA, results1, Int.reduceNeg, splice, Nat.reduceLeDiff, part, fillA, fillE, Nat.reduceLT]
      exact ((Grow.refl _).app).app.app
    have h4 : l.length ≤ 4 * cnt 0 l := by omega
    have e2 : validB l = okFrom l 0 l := by simp [e1, hpow, h4]
    simp (maxDischargeDepth := 30) only [hv.len, hcell, hlen, amL, args0, Nat.reduceEqDiff, reduceCtorEq, ↓reduceIte, Nat.reduceAdd, resultsA, results1, Int.reduceNeg, splice, Nat.reduceLeDiff, part, fillA, fillE, Nat.reduceLT]
    generalize hM0 : m ++ [Blk.cells true [[v]]] ++ [Blk.cells true [[v]]] ++ g = M0
    generalize hp : V.ptr (List.length (m ++ [Blk.cells true [[v]]])) 0 0 = p
    have hg0 : Grow m M0 := by rw [← hM0]; exact ((Grow.refl _).app).app.app
    have hp0 : loadV M0 none p = some v := by rw [← hM0, ← hp]; simp (maxDischargeDepth := 30) only [amL, args0, Nat.reduceEqDiff, reduceCtorEq, ↓reduceIte, Nat.reduceAdd, resultsA, results1, Int.reduceNeg, splice, Nat.reduceLeDiff, part, fillA, fillE, Nat.reduceLT]
    have hpp : asPtr 0 p = some p := by rw [← hp]; rfl
    have hcnt : 0 < cnt 0 l := by omega
    clear hM0 hp
    let I := fun (k : Nat) (fr : Frame) (M : Mem) => ∃ i : Nat, i ≤ l.length ∧ k = l.length - i ∧ fr 3 = p ∧ fr 28 = v ∧ fr 29 = .int .i64 l.length ∧ fr 30 = .int .i64 i ∧ okFrom l i (l.drop i) = okFrom l 0 l ∧ Grow M0 M
    refine W_loop I ?_ l.length ?_
    · rintro k fr M ⟨i, hi, rfl, f3, f28, f29, f30, hok, hg⟩
      unfold ephem_Check_l0
      simp (maxDischargeDepth := 30) only [f3, f28, f29, f30, amL, args0, Nat.reduceEqDiff, reduceCtorEq, ↓reduceIte, Nat.reduceAdd, resultsA, results1, Int.reduceNeg, splice, Nat.reduceLeDiff, part, fillA, fillE, Nat.reduceLT]
      first | (refine O_split (by simp only [put_apply, Nat.reduceEqDiff, ↓reduceIte, reduceCtorEq]; rfl) (fun h => ?_) (fun h => ?_) <;> simp only [decide_eq_true_eq, decide_eq_false_iff_not, Decidable.not_not, Bool.and_eq_true, Bool.not_eq_true', Bool.not_eq_false'] at h) | (refine W_split (by simp only [get_t, put_apply, Nat.reduceEqDiff, ↓reduceIte, reduceCtorEq]; rfl) (fun h => ?_) (fun h => ?_) <;> simp only [decide_eq_true_eq, decide_eq_false_iff_not, Decidable.not_not, Bool.and_eq_true, Bool.not_eq_true', Bool.not_eq_false'] at h)
      · have hil : i < l.length := by omega
        obtain ⟨s, hs⟩ : ∃ s, l[i]? = some s := ⟨_, List.getElem?_eq_getElem hil⟩
        have hsl := (hv.grow hg0).grow hg
        have ix := hsl.index (ki := .i64) (n := i) (by omega) (by omega)
        have ld := fun o k => hsl.load (o := o) (k := k) (encs_get hs)
        simp only [Int.toNat_natCast, enc] at ix ld
        have w1 : IntKind.i64.wrap ((i : Int) + 1) = ((i + 1 : Nat) : Int) := by rw [wrap_i64] <;> omega
        rw [okFrom_drop hs] at hok
        have fin : ∀ (fr' : Frame), fr' 3 = p → fr' 28 = v → fr' 29 = .int .i64 l.length → fr' 30 = .int .i64 (i + 1 : Nat) → okS l i s = true → ∀ M' : Mem, Grow M0 M' → ∃ j, j < l.length - i ∧ I j fr' M' := fun fr' a3 a28 a29 a30 a M' hM' => ⟨l.length - (i + 1), by omega, i + 1, by omega, rfl, a3, a28, a29, a30, by rw [← hok, a, Bool.true_and], hM'⟩
        by_cases c1 : 3 ≤ s.st
        · have : okS l i s = false := by simp [okS]; omega
          rw [this, Bool.false_and] at hok
          simp (maxDischargeDepth := 30) only [h, f3, f28, f29, f30, ix, ld, c1, e2, ← hok, amL, args0, Nat.reduceEqDiff, reduceCtorEq, ↓reduceIte, Nat.reduceAdd, resultsA, results1, Int.reduceNeg, splice, Nat.reduceLeDiff, part, fillA, fillE, Nat.reduceLT]
          exact hg0.trans hg.app
        by_cases c2 : s.st = 1
        · have c3 : ¬ ((3 : Int) ≤ 1) := by omega
          simp (maxDischargeDepth := 30) only [h, f3, f28, f29, f30, ix, ld, c2, c3, amL, args0, Nat.reduceEqDiff, reduceCtorEq, ↓reduceIte, Nat.reduceAdd, resultsA, results1, Int.reduceNeg, splice, Nat.reduceLeDiff, part, fillA, fillE, Nat.reduceLT]
          refine (find_spec (v := v) (l := l) s.key (loadV_some (loadV_grow hp0 hg)) hpp hsl.app (.inr ⟨hpow, hcnt⟩)).mono ?_
          rintro _ _ ⟨rfl, g', rfl⟩
          simp (maxDischargeDepth := 30) only [aft_mk, amL, args0, Nat.reduceEqDiff, reduceCtorEq, ↓reduceIte, Nat.reduceAdd, resultsA, results1, Int.reduceNeg, splice, Nat.reduceLeDiff, part, fillA, fillE, Nat.reduceLT]
          by_cases k0 : s.key = 0
          · have : okS l i s = false := by simp [okS, c2, k0]
            rw [this, Bool.false_and] at hok
            simp (maxDischargeDepth := 30) only [k0, e2, ← hok, amL, args0, Nat.reduceEqDiff, reduceCtorEq, ↓reduceIte, Nat.reduceAdd, resultsA, results1, Int.reduceNeg, splice, Nat.reduceLeDiff, part, fillA, fillE, Nat.reduceLT]
            exact hg0.trans hg.app.app
          by_cases k1 : (findL l s.key).2 = true
          · by_cases k2 : (findL l s.key).1 = i
            · have hok1 : okS l i s = true := by simp [okS, c2, k0, Prod.ext_iff, k1, k2]
              have k3 : ((findL l s.key).1 : Int) = i := by omega
              simp (maxDischargeDepth := 30) only [k0, k1, k3, f3, f28, f29, f30, w1, amL, args0, Nat.reduceEqDiff, reduceCtorEq, ↓reduceIte, Nat.reduceAdd, resultsA, results1, Int.reduceNeg, splice, Nat.reduceLeDiff, part, fillA, fillE, Nat.reduceLT]
              refine fin _ ?_ ?_ ?_ ?_ hok1 _ hg.app.app
              all_goals simp (maxDischargeDepth := 30) only [f3, f28, f29, f30, amL, args0, Nat.reduceEqDiff, reduceCtorEq, ↓reduceIte, Nat.reduceAdd, resultsA, results1, Int.reduceNeg, splice, Nat.reduceLeDiff, part, fillA, fillE, Nat.reduceLT]
            · have : okS l i s = false := by simp [okS, c2, Prod.ext_iff, k2]
              rw [this, Bool.false_and] at hok
              have k3 : ¬ ((findL l s.key).1 : Int) = i := by omega
              simp (maxDischargeDepth := 30) only [k0, k1, k3, f3, f28, f29, f30, e2, ← hok, amL, args0, Nat.reduceEqDiff, reduceCtorEq, ↓reduceIte, Nat.reduceAdd, resultsA, results1, Int.reduceNeg, splice, Nat.reduceLeDiff, part, fillA, fillE, Nat.reduceLT]
              exact hg0.trans hg.app.app
          · have : okS l i s = false := by simp [okS, c2, Prod.ext_iff, k1]
            rw [this, Bool.false_and] at hok
            simp (maxDischargeDepth := 30) only [k0, k1, f3, f28, f29, f30, e2, ← hok, amL, args0, Nat.reduceEqDiff, reduceCtorEq, ↓reduceIte, Nat.reduceAdd, resultsA, results1, Int.reduceNeg, splice, Nat.reduceLeDiff, part, fillA, fillE, Nat.reduceLT]
            exact hg0.trans hg.app.app
        · by_cases c3 : s.key = 0 ∧ s.val = 0
          · obtain ⟨c4, c5⟩ := c3
            have hok1 : okS l i s = true := by simp [okS, c2, c4, c5]; omega
            simp (maxDischargeDepth := 30) only [h, f3, f28, f29, f30, ix, ld, c1, c2, c4, c5, w1, amL, args0, Nat.reduceEqDiff, reduceCtorEq, ↓reduceIte, Nat.reduceAdd, resultsA, results1, Int.reduceNeg, splice, Nat.reduceLeDiff, part, fillA, fillE, Nat.reduceLT]
            refine fin _ ?_ ?_ ?_ ?_ hok1 _ hg.app
            all_goals simp (maxDischargeDepth := 30) only [f3, f28, f29, f30, amL, args0, Nat.reduceEqDiff, reduceCtorEq, ↓reduceIte, Nat.reduceAdd, resultsA, results1, Int.reduceNeg, splice, Nat.reduceLeDiff, part, fillA, fillE, Nat.reduceLT]
          · have : okS l i s = false := by simp [okS, c2]; intro _ a b; exact c3 ⟨a, b⟩
            rw [this, Bool.false_and] at hok
            have c6 : (decide (s.key = 0) && decide (s.val = 0)) = false := by simpa using c3
            simp (maxDischargeDepth := 30) only [h, f3, f28, f29, f30, ix, ld, c1, c2, c6, e2, ← hok, amL, args0, Nat.reduceEqDiff, reduceCtorEq, ↓reduceIte, Nat.reduceAdd, resultsA, results1, Int.reduceNeg, splice, Nat.reduceLeDiff, part, fillA, fillE, Nat.reduceLT]
            exact hg0.trans hg.app
      · have : i = l.length := by omega
        subst this
        rw [List.drop_length] at hok
        simp (maxDischargeDepth := 30) only [h, f3, f28, f29, f30, e2, ← hok, okFrom, amL, args0, Nat.reduceEqDiff, reduceCtorEq, ↓reduceIte, Nat.reduceAdd, resultsA, results1, Int.reduceNeg, splice, Nat.reduceLeDiff, part, fillA, fillE, Nat.reduceLT]
        exact hg0.trans hg
    · exact ⟨0, by omega, rfl, by simp (maxDischargeDepth := 30) only [amL, args0, Nat.reduceEqDiff, reduceCtorEq, ↓reduceIte, Nat.reduceAdd, resultsA, results1, Int.reduceNeg, splice, Nat.reduceLeDiff, part, fillA, fillE, Nat.reduceLT], by simp (maxDischargeDepth := 30) only [amL, args0, Nat.reduceEqDiff, reduceCtorEq, ↓reduceIte, Nat.reduceAdd, resultsA, results1, Int.reduceNeg, splice, Nat.reduceLeDiff, part, fillA, fillE, Nat.reduceLT], by simp (maxDischargeDepth := 30) only [amL, args0, Nat.reduceEqDiff, reduceCtorEq, ↓reduceIte, Nat.reduceAdd, resultsA, results1, Int.reduceNeg, splice, Nat.reduceLeDiff, part, fillA, fillE, Nat.reduceLT], by simp (maxDischargeDepth := 30) only [amL, args0, Nat.reduceEqDiff, reduceCtorEq, ↓reduceIte, Nat.reduceAdd, resultsA, results1, Int.reduceNeg, splice, Nat.reduceLeDiff, part, fillA, fillE, Nat.reduceLT]; rfl, by simp, Grow.refl _⟩
  · simp (maxDischargeDepth := 30) only [hpow, e1, Bool.false_and, amL, args0, Nat.reduceEqDiff, reduceCtorEq, ↓reduceIte, Nat.reduceAdd, resultsA, results1, Int.reduceNeg, splice, Nat.reduceLeDiff, part, fillA, fillE, Nat.reduceLT]
    exact ((Grow.refl _).app).app
theorem valid_cases {l : List Slot} (h : validB l = true) : l.length = 0 ∨ Pow l.length ∧ 0 < cnt 0 l := by
  simp only [validB, Bool.or_eq_true, Bool.and_eq_true, decide_eq_true_eq] at h
  rcases h with h | ⟨h1, h2, _⟩
  · exact .inl h
  · have := h1.le
    exact .inr ⟨h1, by omega⟩
theorem valid_len {l : List Slot} (h : validB l = true) : l.length ≤ 64 := by
  rcases valid_cases h with h | ⟨h, _⟩
  · omega
  · have := h.le; omega
theorem tSort_some {a : List V} {m : Mem} {v : V} {m' : Mem} (e : tSort a m = some (v, m')) : (a = [.nils, .fn n_ephem_All_2 [] []] ∧ v = .tup [] ∧ m' = m) ∨ ∃ b cap ex g els d, a = [.slice b 0 (List.length d) cap ex 3, .fn g [] []] ∧ m[b]? = some (.cells true els) ∧ g = n_ephem_All_2 ∧ d.length < 4611686018427387904 ∧ els.take d.length = encs d ∧ v = .tup [] ∧ m' = m.set b (.cells true (encs (srtL d) ++ els.drop d.length)) := by
  unfold tSort at e
  split at e
  · rename_i m0 b len cap ex g
    split at e
    · rename_i els hb
      split at e
      · rename_i hc
        obtain ⟨h1, h2, h3, h4⟩ := hc
        cases e
        have hl : ((els.take len).map dec).length = len := by simp; omega
        have he : encs ((els.take len).map dec) = els.take len := by
          rw [encs, List.map_map]
          conv => rhs; rw [← List.map_id (els.take len)]
          refine List.map_congr_left fun el hel => ?_
          exact enc_dec (List.all_eq_true.1 h4 el hel)
        exact .inr ⟨b, cap, ex, g, els, (els.take len).map dec, by rw [hl], hb, h1, by rw [hl]; exact h3, by rw [hl, he], rfl, by rw [hl]⟩
      · cases e
    · cases e
  · split at e
    · rename_i hg
      cases e
      exact .inl ⟨by rw [hg], rfl, rfl⟩
    · cases e
  · cases e
theorem tSort_eq {b cap : Nat} {ex : Bool} {els : List (List V)} {d : List Slot} {m : Mem} (hb : m[b]? = some (.cells true els)) (hd : d.length < 4611686018427387904) (he : els.take d.length = encs d) : tSort [.slice b 0 d.length cap ex 3, .fn n_ephem_All_2 [] []] m = some (.tup [], m.set b (.cells true (encs (srtL d) ++ els.drop d.length))) := by
  have hl : d.length ≤ els.length := by
    have := congrArg List.length he
    simp only [List.length_take, List.length_map] at this
    omega
  have ha : (els.take d.length).all isEl = true := by
    rw [he, List.all_eq_true]
    intro x hx
    obtain ⟨s, _, rfl⟩ := List.mem_map.1 hx
    rfl
  have hm : (els.take d.length).map dec = d := by
    rw [he, encs, List.map_map]
    conv => rhs; rw [← List.map_id d]
    exact List.map_congr_left fun s _ => dec_enc s
  simp only [tSort, hb, hm]
  exact if_pos ⟨trivial, hl, hd, ha⟩
end Go.AM.G.E


set_option maxRecDepth 100000
namespace Go.AM.G.E
open Go Go.AM Go.AM.G
def capOk : V → Bool
  | .slice _ _ len cap _ _ => decide (len ≤ cap)
  | _ => true
theorem append_cap {m m' : Mem} {zero : List V} {bytes b z : Nat} {v u : V} (h : appendV m zero bytes (.slice b 0 0 0 true z) v = some (u, m')) : capOk u = true := by
  unfold appendV at h
  split at h
  · cases h
  split at h
  · cases h
  dsimp only at h
  split at h
  · cases h
  split at h
  · cases h; rfl
  rename_i hne
  split at h
  · split at h
    · split at h
      · rename_i ys _ _ hle
        exfalso
        simp only [List.isEmpty_iff] at hne
        exact hne (List.length_eq_zero_iff.1 (by omega))
      · split at h
        · simp only [if_true, Option.some.injEq, Prod.mk.injEq] at h
          rw [← h.1]
          simp [capOk]
        · cases h
    · cases h
  · cases h
theorem Clone_spec' {m : Mem} {v : V} {l : List Slot} (hv : Sl m v 3 (encs l)) (hl : l.length < 5864062014806) : C S n_slices_Clone_EphSlot [v] m (fun r m' => Grow m m' ∧ Fresh m.length m' r 3 (encs l) ∧ capOk r = true) := by
  refine C_body rfl rfl rfl ?_
  unfold slices_Clone_EphSlot
  have hlen : (encs l).length = l.length := by simp
  rcases hv.cases with ⟨rfl, he⟩ | ⟨b, i, len, cap, ex, rfl⟩
  · simp (maxDischargeDepth := 30) only [amL, args0, Nat.reduceEqDiff, reduceCtorEq, ↓reduceIte, Nat.reduceAdd, resultsA, results1, Int.reduceNeg, splice, Nat.reduceLeDiff, part, fillA, fillE, Nat.reduceLT]
    exact ⟨Grow.refl _, Fresh.mk (.inl ⟨rfl, he⟩), rfl⟩
  · simp (maxDischargeDepth := 30) only [amL, args0, Nat.reduceEqDiff, reduceCtorEq, ↓reduceIte, Nat.reduceAdd, resultsA, results1, Int.reduceNeg, splice, Nat.reduceLeDiff, part, fillA, fillE, Nat.reduceLT]
    obtain ⟨v', m', h1, h2, h3⟩ := append_new (zero := [V.int .u8 0, V.int .u64 0, V.int .u64 0]) (bytes := 24) hv rfl (by omega) (by omega)
    refine ⟨v', m', h1, ?_⟩
    exact ⟨h2, h3, append_cap h1⟩
theorem All1_spec {m : Mem} (s : Slot) : C S n_ephem_All_1 [.agg (enc s)] m (fun r m' => r = .bool (decide (s.st ≠ 1)) ∧ Grow m m') := by
  refine C_body rfl rfl rfl ?_
  unfold ephem_All_1
  simp (maxDischargeDepth := 30) only [enc, amL, args0, Nat.reduceEqDiff, reduceCtorEq, ↓reduceIte, Nat.reduceAdd, resultsA, results1, Int.reduceNeg, splice, Nat.reduceLeDiff, part, fillA, fillE, Nat.reduceLT]
  exact (Grow.refl _).app
/-- the slots that are used. -/
def used (l : List Slot) : List Slot := l.filter fun s => decide (s.st = 1)
theorem IndexFunc_spec {m : Mem} {v : V} {l : List Slot} (hv : Sl m v 3 (encs l)) (hl : l.length < 2 ^ 60) : C S n_slices_IndexFunc_EphSlot [v, .fn n_ephem_All_1 [] []] m (fun r m' => Grow m m' ∧ ((r = .int .i64 (-1) ∧ used l = l) ∨ ∃ i s, r = .int .i64 (i : Nat) ∧ l[i]? = some s ∧ s.st ≠ 1 ∧ used (l.take i) = l.take i)) := by
  refine C_body rfl rfl rfl ?_
  unfold slices_IndexFunc_EphSlot
  have hlen : (encs l).length = l.length := by simp
  simp (maxDischargeDepth := 30) only [hv.len, hlen, amL, args0, Nat.reduceEqDiff, reduceCtorEq, ↓reduceIte, Nat.reduceAdd, resultsA, results1, Int.reduceNeg, splice, Nat.reduceLeDiff, part, fillA, fillE, Nat.reduceLT]
  let I := fun (k : Nat) (fr : Frame) (M : Mem) => ∃ i : Nat, i ≤ l.length ∧ k = l.length - i ∧ fr 0 = v ∧ fr 1 = .fn n_ephem_All_1 [] [] ∧ fr 7 = .int .i64 l.length ∧ fr 8 = .int .i64 i ∧ used (l.take i) = l.take i ∧ Grow m M
  refine W_loop I ?_ l.length ?_
  · rintro k fr M ⟨i, hi, rfl, h0, h1, h7, h8, hu, hg⟩
    unfold slices_IndexFunc_EphSlot_l0
    simp (maxDischargeDepth := 30) only [h0, h1, h7, h8, amL, args0, Nat.reduceEqDiff, reduceCtorEq, ↓reduceIte, Nat.reduceAdd, resultsA, results1, Int.reduceNeg, splice, Nat.reduceLeDiff, part, fillA, fillE, Nat.reduceLT]
    first | (refine O_split (by simp only [put_apply, Nat.reduceEqDiff, ↓reduceIte, reduceCtorEq]; rfl) (fun h => ?_) (fun h => ?_) <;> simp only [decide_eq_true_eq, decide_eq_false_iff_not, Decidable.not_not, Bool.and_eq_true, Bool.not_eq_true', Bool.not_eq_false'] at h) | (refine W_split (by simp only [get_t, put_apply, Nat.reduceEqDiff, ↓reduceIte, reduceCtorEq]; rfl) (fun h => ?_) (fun h => ?_) <;> simp only [decide_eq_true_eq, decide_eq_false_iff_not, Decidable.not_not, Bool.and_eq_true, Bool.not_eq_true', Bool.not_eq_false'] at h)
    · have hil : i < l.length := by omega
      obtain ⟨s, hs⟩ : ∃ s, l[i]? = some s := ⟨_, List.getElem?_eq_getElem hil⟩
      have hsl := hv.grow hg
      have ix := hsl.index (ki := .i64) (n := i) (by omega) (by omega)
      have ld := fun o k => hsl.load (o := o) (k := k) (encs_get hs)
      simp only [Int.toNat_natCast, enc] at ix ld
      have w1 : IntKind.i64.wrap ((i : Int) + 1) = ((i + 1 : Nat) : Int) := by rw [wrap_i64] <;> omega
      simp (maxDischargeDepth := 30) only [h, h0, h1, h7, h8, ix, ld, amL, args0, Nat.reduceEqDiff, reduceCtorEq, ↓reduceIte, Nat.reduceAdd, resultsA, results1, Int.reduceNeg, splice, Nat.reduceLeDiff, part, fillA, fillE, Nat.reduceLT]
      refine (All1_spec s).mono ?_
      rintro _ _ ⟨rfl, hg'⟩
      by_cases hst : s.st = 1
      · simp (maxDischargeDepth := 30) only [aft_mk, hst, h0, h1, h7, h8, w1, amL, args0, Nat.reduceEqDiff, reduceCtorEq, ↓reduceIte, Nat.reduceAdd, resultsA, results1, Int.reduceNeg, splice, Nat.reduceLeDiff, part, fillA, fillE, Nat.reduceLT]
        refine ⟨_, ?_, i + 1, by omega, rfl, ?_, ?_, ?_, ?_, ?_, hg.trans hg'⟩
        · omega
        · simp (maxDischargeDepth := 30) only [h0, amL, args0, Nat.reduceEqDiff, reduceCtorEq, ↓reduceIte, Nat.reduceAdd, resultsA, results1, Int.reduceNeg, splice, Nat.reduceLeDiff, part, fillA, fillE, Nat.reduceLT]
        · simp (maxDischargeDepth := 30) only [h1, amL, args0, Nat.reduceEqDiff, reduceCtorEq, ↓reduceIte, Nat.reduceAdd, resultsA, results1, Int.reduceNeg, splice, Nat.reduceLeDiff, part, fillA, fillE, Nat.reduceLT]
        · simp (maxDischargeDepth := 30) only [h7, amL, args0, Nat.reduceEqDiff, reduceCtorEq, ↓reduceIte, Nat.reduceAdd, resultsA, results1, Int.reduceNeg, splice, Nat.reduceLeDiff, part, fillA, fillE, Nat.reduceLT]
        · simp (maxDischargeDepth := 30) only [amL, args0, Nat.reduceEqDiff, reduceCtorEq, ↓reduceIte, Nat.reduceAdd, resultsA, results1, Int.reduceNeg, splice, Nat.reduceLeDiff, part, fillA, fillE, Nat.reduceLT]
        · obtain ⟨a1, e1⟩ := List.getElem?_eq_some_iff.1 hs
          rw [List.take_succ_eq_append_getElem a1, e1]
          unfold used at hu ⊢
          rw [List.filter_append, hu]
          simp [hst]
      · simp (maxDischargeDepth := 30) only [aft_mk, hst, h0, h1, h7, h8, w1, amL, args0, Nat.reduceEqDiff, reduceCtorEq, ↓reduceIte, Nat.reduceAdd, resultsA, results1, Int.reduceNeg, splice, Nat.reduceLeDiff, part, fillA, fillE, Nat.reduceLT]
        exact ⟨hg.trans hg', .inr ⟨i, s, rfl, hs, hst, hu⟩⟩
    · simp (maxDischargeDepth := 30) only [h, h0, h1, h7, h8, amL, args0, Nat.reduceEqDiff, reduceCtorEq, ↓reduceIte, Nat.reduceAdd, resultsA, results1, Int.reduceNeg, splice, Nat.reduceLeDiff, part, fillA, fillE, Nat.reduceLT]
      have : l.take i = l := List.take_of_length_le (by omega)
      rw [this] at hu
      exact ⟨hg, .inl hu⟩
  · exact ⟨0, by omega, rfl, by simp (maxDischargeDepth := 30) only [amL, args0, Nat.reduceEqDiff, reduceCtorEq, ↓reduceIte, Nat.reduceAdd, resultsA, results1, Int.reduceNeg, splice, Nat.reduceLeDiff, part, fillA, fillE, Nat.reduceLT], by simp (maxDischargeDepth := 30) only [amL, args0, Nat.reduceEqDiff, reduceCtorEq, ↓reduceIte, Nat.reduceAdd, resultsA, results1, Int.reduceNeg, splice, Nat.reduceLeDiff, part, fillA, fillE, Nat.reduceLT], by simp (maxDischargeDepth := 30) only [amL, args0, Nat.reduceEqDiff, reduceCtorEq, ↓reduceIte, Nat.reduceAdd, resultsA, results1, Int.reduceNeg, splice, Nat.reduceLeDiff, part, fillA, fillE, Nat.reduceLT], by simp (maxDischargeDepth := 30) only [amL, args0, Nat.reduceEqDiff, reduceCtorEq, ↓reduceIte, Nat.reduceAdd, resultsA, results1, Int.reduceNeg, splice, Nat.reduceLeDiff, part, fillA, fillE, Nat.reduceLT]; rfl, rfl, Grow.refl _⟩
/-- a slice that begins its own block. -/
def Pre (B : Nat) (M : Mem) (u : V) (l : List Slot) : Prop := (u = .nils ∧ l = []) ∨ ∃ b cap ex els, B ≤ b ∧ u = .slice b 0 l.length cap ex 3 ∧ M[b]? = some (.cells true els) ∧ els.take l.length = encs l
theorem Pre.sl {B : Nat} {M : Mem} {u : V} {l : List Slot} (h : Pre B M u l) : Sl M u 3 (encs l) := by
  rcases h with ⟨rfl, rfl⟩ | ⟨b, cap, ex, els, h1, rfl, h3, h4⟩
  · exact ⟨rfl, rfl⟩
  · have hl : l.length ≤ els.length := by
      have := congrArg List.length h4
      simp only [List.length_take, List.length_map] at this
      omega
    simp [Sl, elems, h3, zOk, hl, h4]
theorem used_snoc {l : List Slot} {j : Nat} {s : Slot} (hs : l[j]? = some s) : used (l.take (j + 1)) = used (l.take j) ++ (if s.st = 1 then [s] else []) := by
  obtain ⟨a1, e1⟩ := List.getElem?_eq_some_iff.1 hs
  rw [List.take_succ_eq_append_getElem a1, e1]
  unfold used
  rw [List.filter_append]
  congr 1
  by_cases h : s.st = 1 <;> simp [h]
theorem used_le {l : List Slot} {j : Nat} : (used (l.take j)).length ≤ j := by
  have := List.length_filter_le (fun s : Slot => decide (s.st = 1)) (l.take j)
  unfold used
  simp only [List.length_take] at this
  omega
theorem DeleteFunc_spec {m : Mem} {v : V} {l : List Slot} {m0 : Mem} {B : Nat} (hB : m0.length ≤ B) (hg0 : Grow m0 m) (hv : Fresh B m v 3 (encs l)) (hc : capOk v = true) (hl : l.length < 2 ^ 60) : C S n_slices_DeleteFunc_EphSlot [v, .fn n_ephem_All_1 [] []] m (fun r m' => Grow m0 m' ∧ Pre B m' r (used l)) := by
  refine C_body rfl rfl rfl ?_
  unfold slices_DeleteFunc_EphSlot
  have hlen : (encs l).length = l.length := by simp
  simp (maxDischargeDepth := 30) only [amL, args0, Nat.reduceEqDiff, reduceCtorEq, ↓reduceIte, Nat.reduceAdd, resultsA, results1, Int.reduceNeg, splice, Nat.reduceLeDiff, part, fillA, fillE, Nat.reduceLT]
  refine (IndexFunc_spec hv.1 hl).mono ?_
  rintro r m1 ⟨hg1, ⟨rfl, hu⟩ | ⟨i, s, rfl, hs, hst, hu⟩⟩
  · simp (maxDischargeDepth := 30) only [aft_mk, amL, args0, Nat.reduceEqDiff, reduceCtorEq, ↓reduceIte, Nat.reduceAdd, resultsA, results1, Int.reduceNeg, splice, Nat.reduceLeDiff, part, fillA, fillE, Nat.reduceLT]
    refine ⟨hg0.trans hg1, ?_⟩
    rw [hu]
    rcases (hv.grow hg1).cases with ⟨rfl, he⟩ | ⟨b, cap, ex, h1, rfl, h3⟩
    · exact .inl ⟨rfl, by simpa using he⟩
    · exact .inr ⟨b, cap, ex, _, h1, by simp, h3, by rw [← hlen, List.take_length]⟩
  obtain ⟨hil, hie⟩ := List.getElem?_eq_some_iff.1 hs
  rcases (hv.grow hg1).cases with ⟨rfl, he⟩ | ⟨b, cap, ex, h1, rfl, h3⟩
  · have : l.length = 0 := by rw [← hlen, he]; rfl
    omega
  have hcap : l.length ≤ cap := by simpa [capOk] using hc
  have c0 : ¬ (i : Int) = -1 := by omega
  have w0 : IntKind.i64.wrap ((i : Int) + 1) = ((i + 1 : Nat) : Int) := by rw [wrap_i64] <;> omega
  simp (maxDischargeDepth := 30) only [aft_mk, c0, w0, amL, args0, Nat.reduceEqDiff, reduceCtorEq, ↓reduceIte, Nat.reduceAdd, resultsA, results1, Int.reduceNeg, splice, Nat.reduceLeDiff, part, fillA, fillE, Nat.reduceLT]
  let I := fun (k : Nat) (fr : Frame) (M : Mem) => ∃ (j : Nat) (t : List Slot), j ≤ l.length ∧ k = l.length - j ∧ fr 0 = .slice b 0 l.length cap ex 3 ∧ fr 1 = .fn n_ephem_All_1 [] [] ∧ fr 5 = .int .i64 (used (l.take j)).length ∧ fr 6 = .int .i64 j ∧ Grow m0 M ∧ M[b]? = some (.cells true (encs t)) ∧ t.length = l.length ∧ t.take (used (l.take j)).length = used (l.take j) ∧ t.drop j = l.drop j ∧ (used (l.take j)).length < j
  rw [hlen]
  refine W_loop I ?_ (l.length - (i + 1)) ?_
  · rintro k fr M ⟨j, t, hj, rfl, f0, f1, f5, f6, hg, hMb, htl, htt, htd, hlt⟩
    unfold slices_DeleteFunc_EphSlot_l0
    simp (maxDischargeDepth := 30) only [f0, f1, f5, f6, amL, args0, Nat.reduceEqDiff, reduceCtorEq, ↓reduceIte, Nat.reduceAdd, resultsA, results1, Int.reduceNeg, splice, Nat.reduceLeDiff, part, fillA, fillE, Nat.reduceLT]
    have hsl : Sl M (.slice b 0 l.length cap ex 3) 3 (encs t) := by
      have : (encs t).length = l.length := by simp [htl]
      rw [← this]
      exact Sl.mk hMb
    have hel : (encs t).length = l.length := by simp [htl]
    generalize hn : (used (l.take j)).length = n at *
    first | (refine O_split (by simp only [put_apply, Nat.reduceEqDiff, ↓reduceIte, reduceCtorEq]; rfl) (fun h => ?_) (fun h => ?_) <;> simp only [decide_eq_true_eq, decide_eq_false_iff_not, Decidable.not_not, Bool.and_eq_true, Bool.not_eq_true', Bool.not_eq_false'] at h) | (refine W_split (by simp only [get_t, put_apply, Nat.reduceEqDiff, ↓reduceIte, reduceCtorEq]; rfl) (fun h => ?_) (fun h => ?_) <;> simp only [decide_eq_true_eq, decide_eq_false_iff_not, Decidable.not_not, Bool.and_eq_true, Bool.not_eq_true', Bool.not_eq_false'] at h)
    · have hjl : j < l.length := by omega
      obtain ⟨x, hx⟩ : ∃ x, l[j]? = some x := ⟨_, List.getElem?_eq_getElem hjl⟩
      have htx : t[j]? = some x := by
        have := congrArg (fun z : List Slot => z[0]?) htd
        simpa [List.getElem?_drop, hx] using this
      have hus := used_snoc hx
      have ix := hsl.index (ki := .i64) (n := j) (by omega) (by omega)
      have ld := fun o k => hsl.load (o := o) (k := k) (encs_get htx)
      simp only [Int.toNat_natCast, enc] at ix ld
      have w1 : IntKind.i64.wrap ((j : Int) + 1) = ((j + 1 : Nat) : Int) := by rw [wrap_i64] <;> omega
      have w2 : IntKind.i64.wrap ((n : Int) + 1) = ((n + 1 : Nat) : Int) := by rw [wrap_i64] <;> omega
      have l1 := fun k => load_at0 (M := M ++ [Blk.cells true [enc x]]) (b := M.length) (own := true) (el := enc x) (k := k) (j := 0) (by simp)
      simp only [enc] at l1
      simp (maxDischargeDepth := 30) only [h, f0, f1, f5, f6, ix, ld, l1, amL, args0, Nat.reduceEqDiff, reduceCtorEq, ↓reduceIte, Nat.reduceAdd, resultsA, results1, Int.reduceNeg, splice, Nat.reduceLeDiff, part, fillA, fillE, Nat.reduceLT]
      refine (All1_spec x).mono ?_
      rintro _ M' ⟨rfl, g', rfl⟩
      have hMb2 : (M ++ [Blk.cells true [[V.int .u8 x.st, V.int .u64 x.key, V.int .u64 x.val]]] ++ g')[b]? = some (.cells true (encs t)) := getElem?_grow (getElem?_grow hMb)
      have hg2 : Grow m0 (M ++ [Blk.cells true [[V.int .u8 x.st, V.int .u64 x.key, V.int .u64 x.val]]] ++ g') := hg.app.app
      have l2 := fun k => load_at0 (M := M ++ [Blk.cells true [[V.int .u8 x.st, V.int .u64 x.key, V.int .u64 x.val]]] ++ g') (b := M.length) (own := true) (el := [V.int .u8 x.st, V.int .u64 x.key, V.int .u64 x.val]) (k := k) (j := 0) (getElem?_grow (by simp))
      have hsl2 := (hsl.app (g := [Blk.cells true [[V.int .u8 x.st, V.int .u64 x.key, V.int .u64 x.val]]])).app (g := g')
      generalize M ++ [Blk.cells true [[V.int .u8 x.st, V.int .u64 x.key, V.int .u64 x.val]]] ++ g' = M2 at hMb2 hg2 l2 hsl2
      by_cases hxs : x.st = 1
      · rw [if_pos hxs] at hus
        have hn1 : (used (l.take (j + 1))).length = n + 1 := by rw [hus, List.length_append, hn]; rfl
        obtain ⟨y, hy⟩ : ∃ y, t[n]? = some y := ⟨_, List.getElem?_eq_getElem (by omega)⟩
        have ix2 := hsl2.index (ki := .i64) (n := n) (by omega) (by omega)
        have st := store_own (n := 3) (len := l.length) (cap := cap) (z := 3) (ex := ex) (x := .agg [.int .u8 x.st, .int .u64 x.key, .int .u64 x.val]) hMb2 (encs_get hy) rfl rfl rfl
        have e : (encs t).set n [.int .u8 x.st, .int .u64 x.key, .int .u64 x.val] = encs (t.set n x) := by simp [List.map_set, enc]
        simp only [Int.toNat_natCast, cells_agg, e] at ix2 st
        have hbl := (List.getElem?_eq_some_iff.1 hMb2).1
        have hn0 : ¬ ¬ x.st = 1 := fun h => h hxs
        simp (maxDischargeDepth := 30) only [aft_mk, hn0, f0, f1, f5, f6, l2, ix2, st, w1, w2, amL, args0, Nat.reduceEqDiff, reduceCtorEq, ↓reduceIte, Nat.reduceAdd, resultsA, results1, Int.reduceNeg, splice, Nat.reduceLeDiff, part, fillA, fillE, Nat.reduceLT]
        refine ⟨_, ?_, j + 1, t.set n x, by omega, rfl, ?_, ?_, ?_, ?_, hg2.set (by omega) _, List.getElem?_set_self hbl, by simp [htl], ?_, ?_, by rw [hn1]; omega⟩
        · omega
        · simp (maxDischargeDepth := 30) only [f0, amL, args0, Nat.reduceEqDiff, reduceCtorEq, ↓reduceIte, Nat.reduceAdd, resultsA, results1, Int.reduceNeg, splice, Nat.reduceLeDiff, part, fillA, fillE, Nat.reduceLT]
        · simp (maxDischargeDepth := 30) only [f1, amL, args0, Nat.reduceEqDiff, reduceCtorEq, ↓reduceIte, Nat.reduceAdd, resultsA, results1, Int.reduceNeg, splice, Nat.reduceLeDiff, part, fillA, fillE, Nat.reduceLT]
        · simp (maxDischargeDepth := 30) only [amL, args0, Nat.reduceEqDiff, reduceCtorEq, ↓reduceIte, Nat.reduceAdd, resultsA, results1, Int.reduceNeg, splice, Nat.reduceLeDiff, part, fillA, fillE, Nat.reduceLT]; rw [hn1]
        · simp (maxDischargeDepth := 30) only [amL, args0, Nat.reduceEqDiff, reduceCtorEq, ↓reduceIte, Nat.reduceAdd, resultsA, results1, Int.reduceNeg, splice, Nat.reduceLeDiff, part, fillA, fillE, Nat.reduceLT]
        · rw [hn1, List.take_set, hus]
          have a2 : t.take (n + 1) = t.take n ++ [y] := by
            obtain ⟨a3, e3⟩ := List.getElem?_eq_some_iff.1 hy
            rw [List.take_succ_eq_append_getElem a3, e3]
          rw [a2, htt, List.set_append_right _ _ (by rw [hn]; omega), hn]
          simp
        · rw [List.drop_set, if_pos (by omega)]
          have := congrArg (List.drop 1) htd
          simpa [List.drop_drop] using this
      · rw [if_neg hxs, List.append_nil] at hus
        simp (maxDischargeDepth := 30) only [aft_mk, hxs, f0, f1, f5, f6, w1, amL, args0, Nat.reduceEqDiff, reduceCtorEq, ↓reduceIte, Nat.reduceAdd, resultsA, results1, Int.reduceNeg, splice, Nat.reduceLeDiff, part, fillA, fillE, Nat.reduceLT]
        refine ⟨_, ?_, j + 1, t, by omega, rfl, ?_, ?_, ?_, ?_, hg2, hMb2, htl, by rw [hus, hn]; exact htt, ?_, by rw [hus, hn]; omega⟩
        · omega
        · simp (maxDischargeDepth := 30) only [f0, amL, args0, Nat.reduceEqDiff, reduceCtorEq, ↓reduceIte, Nat.reduceAdd, resultsA, results1, Int.reduceNeg, splice, Nat.reduceLeDiff, part, fillA, fillE, Nat.reduceLT]
        · simp (maxDischargeDepth := 30) only [f1, amL, args0, Nat.reduceEqDiff, reduceCtorEq, ↓reduceIte, Nat.reduceAdd, resultsA, results1, Int.reduceNeg, splice, Nat.reduceLeDiff, part, fillA, fillE, Nat.reduceLT]
        · simp (maxDischargeDepth := 30) only [f5, amL, args0, Nat.reduceEqDiff, reduceCtorEq, ↓reduceIte, Nat.reduceAdd, resultsA, results1, Int.reduceNeg, splice, Nat.reduceLeDiff, part, fillA, fillE, Nat.reduceLT]; rw [hus, hn]
        · simp (maxDischargeDepth := 30) only [amL, args0, Nat.reduceEqDiff, reduceCtorEq, ↓reduceIte, Nat.reduceAdd, resultsA, results1, Int.reduceNeg, splice, Nat.reduceLeDiff, part, fillA, fillE, Nat.reduceLT]
        · have := congrArg (List.drop 1) htd
          simpa [List.drop_drop] using this
    · have hjj : j = l.length := by omega
      subst hjj
      rw [List.take_length] at hn htt
      have hbl := (List.getElem?_eq_some_iff.1 hMb).1
      have sv1 : sliceV (.slice b 0 l.length cap ex 3) (some (.int .i64 n)) none none = some (.slice b n (l.length - n) (cap - n) ex 3) := by
        have e1 : n ≤ l.length := by omega
        simp [sliceV, bound, e1]
      have sv2 : sliceV (.slice b 0 l.length cap ex 3) none (some (.int .i64 n)) none = some (.slice b 0 n cap ex 3) := by
        have e1 : n ≤ cap := by omega
        simp [sliceV, bound, e1]
      have cl : clearV M [.int .u8 0, .int .u64 0, .int .u64 0] (.slice b n (l.length - n) (cap - n) ex 3) = some (undef, M.set b (.cells true (over (encs t) n (List.replicate (l.length - n) [.int .u8 0, .int .u64 0, .int .u64 0])))) := by
        have e1 : n + (l.length - n) ≤ l.length := by omega
        simp [clearV, hMb, htl, e1]
      simp (maxDischargeDepth := 30) only [h, f0, f1, f5, f6, Option.map_none, sv1, sv2, cl, zOk, amL, args0, Nat.reduceEqDiff, reduceCtorEq, ↓reduceIte, Nat.reduceAdd, resultsA, results1, Int.reduceNeg, splice, Nat.reduceLeDiff, part, fillA, fillE, Nat.reduceLT]
      refine ⟨_, _, rfl, hg.set (by omega) _, .inr ⟨b, cap, ex, _, h1, by rw [hn], List.getElem?_set_self hbl, ?_⟩⟩
      rw [hn]
      unfold over
      rw [List.take_append_of_le_length (by simp; omega), List.take_take, Nat.min_self, ← List.map_take, htt]
  · refine ⟨i + 1, l, by omega, rfl, by simp (maxDischargeDepth := 30) only [amL, args0, Nat.reduceEqDiff, reduceCtorEq, ↓reduceIte, Nat.reduceAdd, resultsA, results1, Int.reduceNeg, splice, Nat.reduceLeDiff, part, fillA, fillE, Nat.reduceLT], by simp (maxDischargeDepth := 30) only [amL, args0, Nat.reduceEqDiff, reduceCtorEq, ↓reduceIte, Nat.reduceAdd, resultsA, results1, Int.reduceNeg, splice, Nat.reduceLeDiff, part, fillA, fillE, Nat.reduceLT], ?_, by simp (maxDischargeDepth := 30) only [amL, args0, Nat.reduceEqDiff, reduceCtorEq, ↓reduceIte, Nat.reduceAdd, resultsA, results1, Int.reduceNeg, splice, Nat.reduceLeDiff, part, fillA, fillE, Nat.reduceLT], hg0.trans hg1, h3, rfl, ?_, rfl, ?_⟩
    all_goals have hus := used_snoc hs
    all_goals rw [if_neg hst, List.append_nil, hu] at hus
    all_goals rw [hus]
    · simp (maxDischargeDepth := 30) only [amL, args0, Nat.reduceEqDiff, reduceCtorEq, ↓reduceIte, Nat.reduceAdd, resultsA, results1, Int.reduceNeg, splice, Nat.reduceLeDiff, part, fillA, fillE, Nat.reduceLT]; simp; omega
    · simp [List.take_take]
    · simp; omega
theorem lt_swo : Go.Sort.SWO ltKey where
  irrefl x := by unfold ltKey; simp
  trans x y z h1 h2 := by unfold ltKey at *; simp at *; omega
  ntrans x y z h1 h2 := by unfold ltKey at *; simp at *; omega
theorem srt_sorts (d : Array Slot) : Go.Sort.PermIn 0 d.size d (srtA d) ∧ Go.Sort.SortedIn ltKey 0 d.size (srtA d) := Go.Sort.pdq_sorts ltKey lt_swo d 0 d.size (Lib.bitLen d.size) true true (Nat.zero_le _) (Nat.le_refl _) (Or.inl rfl)
theorem srtL_len {d : List Slot} : (srtL d).length = d.length := by
  have := (srt_sorts d.toArray).1.1
  simpa [srtL] using this
theorem srtL_perm {d : List Slot} : (srtL d).Perm d := by
  have h := (srt_sorts d.toArray).1.2.2
  have hl := (srt_sorts d.toArray).1.1
  simp only [List.size_toArray] at h hl
  have e1 : ((srtA d.toArray).extract 0 d.length).toList = srtL d := by
    unfold srtL
    rw [← hl]
    simp
  have e2 : (d.toArray.extract 0 d.length).toList = d := by simp
  rwa [e1, e2] at h
theorem srtL_sorted {d : List Slot} {i j : Nat} {a b : Slot} (hij : i < j) (ha : (srtL d)[i]? = some a) (hb : (srtL d)[j]? = some b) : a.key ≤ b.key := by
  have h := (srt_sorts d.toArray).2
  have hl := (srt_sorts d.toArray).1.1
  have hj := (List.getElem?_eq_some_iff.1 hb).1
  rw [srtL_len] at hj
  have := h i j (Nat.zero_le _) hij (by simpa using hj)
  have g : ∀ (x : Nat) (y : Slot), (srtL d)[x]? = some y → (srtA d.toArray)[x]! = y := by
    intro x y hy
    unfold srtL at hy
    rw [Array.getElem!_eq_getD, Array.getD_eq_getD_getElem?, ← Array.getElem?_toList, hy]
    rfl
  rw [g i a ha, g j b hb] at this
  unfold ltKey at this
  simpa using this
theorem sort_spec {m0 M : Mem} {B : Nat} {u : V} {d : List Slot} (h : Pre B M u d) (hd : d.length < 2 ^ 60) (hg0 : Grow m0 M) (hB : m0.length ≤ B) : C S n_slices_SortFunc_EphSlot [u, .fn n_ephem_All_2 [] []] M (fun r m' => r = .tup [] ∧ Grow m0 m' ∧ Pre B m' u (srtL d)) := by
  rcases h with ⟨rfl, rfl⟩ | ⟨b, cap, ex, els, h1, rfl, h3, h4⟩
  · have : srtL [] = [] := List.length_eq_zero_iff.1 (by rw [srtL_len]; rfl)
    exact ⟨1, _, _, rfl, rfl, hg0, .inl ⟨rfl, this⟩⟩
  · have hbl := (List.getElem?_eq_some_iff.1 h3).1
    refine ⟨1, _, _, tSort_eq (cap := cap) (ex := ex) h3 (by omega) h4, rfl, hg0.set (by omega) _, .inr ⟨b, cap, ex, _, h1, by rw [srtL_len], List.getElem?_set_self hbl, ?_⟩⟩
    rw [srtL_len, List.take_append_of_le_length (by simp [srtL_len])]
    rw [List.take_of_length_le (by simp [srtL_len])]
def blkOf : V → Option Nat
  | .slice b _ _ _ _ _ => some b
  | _ => none
/-- a slice that grows by appends alone. -/
def Psh (B : Nat) (M : Mem) (u : V) (els : List (List V)) : Prop := (u = .nils ∧ els = []) ∨ ∃ b, B ≤ b ∧ u = .slice b 0 els.length els.length false 1 ∧ M[b]? = some (.cells true els)
theorem Psh.sl {B : Nat} {M : Mem} {u : V} {els : List (List V)} (h : Psh B M u els) : Sl M u 1 els := by
  rcases h with ⟨rfl, rfl⟩ | ⟨b, _, rfl, h⟩
  · exact ⟨rfl, rfl⟩
  · exact Sl.mk h
theorem Psh.keep {B : Nat} {M M' : Mem} {u : V} {els : List (List V)} (h : Psh B M u els) (hk : ∀ c y, blkOf u = some c → M[c]? = some y → M'[c]? = some y) : Psh B M' u els := by
  rcases h with h | ⟨b, h1, rfl, h3⟩
  · exact .inl h
  · exact .inr ⟨b, h1, rfl, hk b _ rfl h3⟩
theorem Psh.blk {B : Nat} {M : Mem} {u : V} {els : List (List V)} (h : Psh B M u els) {c : Nat} (hc : blkOf u = some c) : B ≤ c ∧ c < M.length := by
  rcases h with ⟨rfl, _⟩ | ⟨b, h1, rfl, h3⟩
  · cases hc
  · cases hc
    exact ⟨h1, (List.getElem?_eq_some_iff.1 h3).1⟩
theorem push {B : Nat} {M : Mem} {u x z : V} {T bytes : Nat} {own : Bool} {els : List (List V)} (h : Psh B M u els) (hT : M[T]? = some (.cells own [[x]])) (hr : roomy (els.length + 1) bytes = true) (hB : B ≤ M.length) (hTu : blkOf u ≠ some T) :
    ∃ u' M', appendV M [z] bytes u (.slice T 0 1 1 true 1) = some (u', M') ∧ Psh B M' u' (els ++ [[x]]) ∧ (∀ c y, blkOf u ≠ some c → M[c]? = some y → M'[c]? = some y) ∧ blkOf u' = some M.length ∧ M'.length = M.length + 1 := by
  have he : elems M (.slice T 0 1 1 true 1) = some [[x]] := by simp [elems, hT]
  rcases h with ⟨rfl, rfl⟩ | ⟨b, h1, rfl, h3⟩
  · refine ⟨.slice M.length 0 1 1 false 1, M ++ [.cells true [[x]]], ?_, .inr ⟨M.length, hB, rfl, by simp⟩, fun c y _ hy => getElem?_grow hy, rfl, by simp⟩
    have hr' : roomy 1 bytes = true := hr
    simp [appendV, elemsY_of he, zOk, hr']
  · have hbl := (List.getElem?_eq_some_iff.1 h3).1
    refine ⟨.slice M.length 0 (els.length + 1) (els.length + 1) false 1, M.set b .dead ++ [.cells true (els ++ [[x]])], ?_, .inr ⟨M.length, hB, by simp, ?_⟩, fun c y hc hy => ?_, rfl, by simp⟩
    · simp [appendV, elemsY_of he, zOk, h3, hr]
    · rw [List.getElem?_append_right (by simp)]; simp
    · refine getElem?_grow ?_
      rw [List.getElem?_set_ne (fun e => hc (by rw [e]; rfl))]
      exact hy
theorem Grow.keep {m0 M M' : Mem} (hg : Grow m0 M) (h : ∀ (c : Nat) y, c < m0.length → M[c]? = some y → M'[c]? = some y) : Grow m0 M' := by
  refine ⟨M'.drop m0.length, ?_⟩
  have : M'.take m0.length = m0 := by
    apply List.ext_getElem?
    intro i
    by_cases hi : i < m0.length
    · rw [List.getElem?_take, if_pos hi]
      have h0 := List.getElem?_eq_getElem hi
      rw [h0]
      exact h i _ hi (hg.get h0)
    · rw [List.getElem?_eq_none (by simp; omega), List.getElem?_eq_none (by omega)]
  conv => lhs; rw [← List.take_append_drop m0.length M', this]
/-- what All tells. -/
def allL (l : List Slot) : List Int × List Int × Int := if validB l = true then ((srtL (used l)).map (·.key), (srtL (used l)).map (·.val), 0) else ([], [], 2)
abbrev ints (keys : List Int) : List (List V) := keys.map fun k => [.int .u64 k]
theorem used_len {l : List Slot} : (used l).length ≤ l.length := List.length_filter_le _ _
theorem All_spec {m : Mem} {v : V} {l : List Slot} (hv : Sl m v 3 (encs l)) (hl : l.length < 5864062014806) : C S n_ephem_All [.agg [v]] m (fun r m' => ∃ kv vv, r = .tup [kv, vv, .int .i64 (allL l).2.2] ∧ Grow m m' ∧ Sl m' kv 1 (ints (allL l).1) ∧ Sl m' vv 1 (ints (allL l).2.1)) := by
  refine C_body rfl rfl rfl ?_
  unfold ephem_All
  have hcell := hv.cell
  simp (maxDischargeDepth := 30) only [hcell, amL, args0, Nat.reduceEqDiff, reduceCtorEq, ↓reduceIte, Nat.reduceAdd, resultsA, results1, Int.reduceNeg, splice, Nat.reduceLeDiff, part, fillA, fillE, Nat.reduceLT]
  refine (Check_spec hv.app (by omega)).mono ?_
  rintro _ _ ⟨rfl, g, rfl⟩
  by_cases hval : validB l = true
  · have c0 : ¬ ¬ (0 : Int) = 0 := by omega
    have h64 := valid_len hval
    simp (maxDischargeDepth := 30) only [aft_mk, hval, hcell, c0, amL, args0, Nat.reduceEqDiff, reduceCtorEq, ↓reduceIte, Nat.reduceAdd, resultsA, results1, Int.reduceNeg, splice, Nat.reduceLeDiff, part, fillA, fillE, Nat.reduceLT]
    refine (Clone_spec' hv.app.app hl).mono ?_
    rintro u m2 ⟨hg2, hu, huc⟩
    simp (maxDischargeDepth := 30) only [aft_mk, amL, args0, Nat.reduceEqDiff, reduceCtorEq, ↓reduceIte, Nat.reduceAdd, resultsA, results1, Int.reduceNeg, splice, Nat.reduceLeDiff, part, fillA, fillE, Nat.reduceLT]
    have hgm : Grow m (m ++ [Blk.cells true [[v]]] ++ g) := (Grow.refl _).app.app
    refine (DeleteFunc_spec (m0 := m) hgm.len (hgm.trans hg2) hu huc (by omega)).mono ?_
    rintro u2 m3 ⟨hg3, hu2⟩
    have hul := used_len (l := l)
    simp (maxDischargeDepth := 30) only [aft_mk, amL, args0, Nat.reduceEqDiff, reduceCtorEq, ↓reduceIte, Nat.reduceAdd, resultsA, results1, Int.reduceNeg, splice, Nat.reduceLeDiff, part, fillA, fillE, Nat.reduceLT]
    refine (sort_spec hu2 (by omega) hg3 hgm.len).mono ?_
    rintro _ m4 ⟨rfl, hg4, hu4⟩
    generalize hd : srtL (used l) = d at hu4
    have hdl : d.length ≤ 64 := by rw [← hd, srtL_len]; omega
    have hsl := hu4.sl
    have hlen : (encs d).length = d.length := by simp
    simp (maxDischargeDepth := 30) only [aft_mk, hsl.len, hlen, amL, args0, Nat.reduceEqDiff, reduceCtorEq, ↓reduceIte, Nat.reduceAdd, resultsA, results1, Int.reduceNeg, splice, Nat.reduceLeDiff, part, fillA, fillE, Nat.reduceLT]
    have e1 : (allL l).1 = d.map (·.key) := by simp [allL, hval, hd]
    have e2 : (allL l).2.1 = d.map (·.val) := by simp [allL, hval, hd]
    have e3 : (allL l).2.2 = 0 := by simp [allL, hval]
    rw [e1, e2, e3]
    let I := fun (n : Nat) (fr : Frame) (M : Mem) => ∃ (i : Nat) (ku vu : V), i ≤ d.length ∧ n = d.length - i ∧ fr 7 = ku ∧ fr 8 = vu ∧ fr 22 = u2 ∧ fr 23 = .int .i64 d.length ∧ fr 24 = .int .i64 i ∧ Grow m M ∧ Sl M u2 3 (encs d) ∧ m4.length ≤ M.length ∧ (∀ c y, c < m4.length → m4[c]? = some y → M[c]? = some y) ∧ Psh m4.length M ku (ints ((d.map (·.key)).take i)) ∧ Psh m4.length M vu (ints ((d.map (·.val)).take i)) ∧ (∀ c, blkOf ku = some c → blkOf vu ≠ some c)
    refine W_loop I ?_ d.length ?_
    · rintro n fr M ⟨i, ku, vu, hi, rfl, f7, f8, f22, f23, f24, hg, hM, hml, hkeep, hku, hvu, hap⟩
      unfold ephem_All_l0
      simp (maxDischargeDepth := 30) only [f7, f8, f22, f23, f24, amL, args0, Nat.reduceEqDiff, reduceCtorEq, ↓reduceIte, Nat.reduceAdd, resultsA, results1, Int.reduceNeg, splice, Nat.reduceLeDiff, part, fillA, fillE, Nat.reduceLT]
      first | (refine O_split (by simp only [put_apply, Nat.reduceEqDiff, ↓reduceIte, reduceCtorEq]; rfl) (fun h => ?_) (fun h => ?_) <;> simp only [decide_eq_true_eq, decide_eq_false_iff_not, Decidable.not_not, Bool.and_eq_true, Bool.not_eq_true', Bool.not_eq_false'] at h) | (refine W_split (by simp only [get_t, put_apply, Nat.reduceEqDiff, ↓reduceIte, reduceCtorEq]; rfl) (fun h => ?_) (fun h => ?_) <;> simp only [decide_eq_true_eq, decide_eq_false_iff_not, Decidable.not_not, Bool.and_eq_true, Bool.not_eq_true', Bool.not_eq_false'] at h)
      · have hil : i < d.length := by omega
        obtain ⟨s, hs⟩ : ∃ s, d[i]? = some s := ⟨_, List.getElem?_eq_getElem hil⟩
        have ix := hM.index (ki := .i64) (n := i) (by omega) (by omega)
        have ld := fun o k => hM.load (o := o) (k := k) (encs_get hs)
        simp only [Int.toNat_natCast, enc] at ix ld
        have w1 : IntKind.i64.wrap ((i : Int) + 1) = ((i + 1 : Nat) : Int) := by rw [wrap_i64] <;> omega
        simp (maxDischargeDepth := 30) only [h, f7, f8, f22, f23, f24, ix, ld, amL, args0, Nat.reduceEqDiff, reduceCtorEq, ↓reduceIte, Nat.reduceAdd, resultsA, results1, Int.reduceNeg, splice, Nat.reduceLeDiff, part, fillA, fillE, Nat.reduceLT]
        simp only [List.length_append, List.length_cons, List.length_nil, Nat.zero_add, List.replicate_succ, List.replicate_zero]
        have hkb := fun c => hku.blk (c := c)
        have hvb := fun c => hvu.blk (c := c)
        generalize hA : List.set (M ++ [Blk.cells true [[V.int .u8 s.st, V.int .u64 s.key, V.int .u64 s.val]]] ++ [Blk.dead, Blk.dead]) (M.length + 1) (Blk.cells true [[V.int .u64 s.key]]) = A
        have a0 : ∀ (c : Nat) y, M[c]? = some y → A[c]? = some y := by
          intro c y hy
          have := (List.getElem?_eq_some_iff.1 hy).1
          rw [← hA, List.getElem?_set_ne (by omega)]
          exact getElem?_grow (getElem?_grow hy)
        have a1 : A[M.length]? = some (Blk.cells true [[V.int .u8 s.st, V.int .u64 s.key, V.int .u64 s.val]]) := by
          rw [← hA, List.getElem?_set_ne (by omega)]
          exact getElem?_grow (by simp)
        have a2 : A[M.length + 1]? = some (Blk.cells true [[V.int .u64 s.key]]) := by
          rw [← hA, List.getElem?_set_self (by simp)]
        have a3 : A[M.length + 2]? = some .dead := by
          rw [← hA, List.getElem?_set_ne (by omega), List.getElem?_append_right (by simp)]
          simp
        have a4 : A.length = M.length + 3 := by rw [← hA]; simp
        have a5 : (M ++ [Blk.cells true [[V.int .u8 s.st, V.int .u64 s.key, V.int .u64 s.val]]] ++ [Blk.dead, Blk.dead])[M.length + 1]? = some .dead := by
          rw [List.getElem?_append_right (by simp)]
          simp
        have hkl : (ints ((d.map (·.key)).take i)).length ≤ 64 := by simp; omega
        have hvl : (ints ((d.map (·.val)).take i)).length ≤ 64 := by simp; omega
        have rm : ∀ n, n ≤ 64 → roomy (n + 1) 8 = true := by intro n hn; simp [roomy]; omega
        obtain ⟨ku', M', p1, p2, p3, p4, p5⟩ := push (z := .int .u64 0) (bytes := 8) (hku.keep (M' := A) fun c y _ hy => a0 c y hy) a2 (rm _ hkl) (by omega) (fun e => by have := (hkb _ e).2; omega)
        have kne : ∀ c, M.length ≤ c → blkOf ku ≠ some c := fun c hc e => by have := (hkb _ e).2; omega
        have vne : ∀ c, M.length ≤ c → blkOf vu ≠ some c := fun c hc e => by have := (hvb _ e).2; omega
        have b1 := p3 _ _ (kne _ (Nat.le_refl _)) a1
        have b3 := p3 _ _ (kne (M.length + 2) (by omega)) a3
        have ldb : loadV M' none (.ptr M.length 0 2) = some (.int .u64 s.val) := by simp [loadV, b1, part]
        generalize hB : List.set M' (M.length + 2) (Blk.cells true [[V.int .u64 s.val]]) = B
        have c0 : ∀ (c : Nat) y, c ≠ M.length + 2 → M'[c]? = some y → B[c]? = some y := by
          intro c y hc hy
          rw [← hB, List.getElem?_set_ne (Ne.symm hc)]
          exact hy
        have c2 : B[M.length + 2]? = some (Blk.cells true [[V.int .u64 s.val]]) := by
          rw [← hB, List.getElem?_set_self (by omega)]
        have c4 : B.length = M.length + 4 := by rw [← hB]; simp; omega
        have hvu' : Psh m4.length B vu (ints ((d.map (·.val)).take i)) := hvu.keep fun c y hc hy => by
          have := (hvb _ hc).2
          exact c0 c y (by omega) (p3 c y (fun e => hap c e hc) (a0 c y hy))
        obtain ⟨vu', M'', q1, q2, q3, q4, q5⟩ := push (z := .int .u64 0) (bytes := 8) hvu' c2 (rm _ hvl) (by omega) (vne _ (by omega))
        have hku'' : Psh m4.length M'' ku' (ints ((d.map (·.key)).take i) ++ [[.int .u64 s.key]]) := p2.keep fun c y hc hy => by
          rw [p4] at hc
          cases hc
          exact q3 _ y (vne _ (by omega)) (c0 _ y (by omega) hy)
        have hold : ∀ (c : Nat) y, c < m4.length → m4[c]? = some y → M''[c]? = some y := fun c y hc hy => by
          have e1 : blkOf ku ≠ some c := fun e => by have := (hkb _ e).1; omega
          have e2 : blkOf vu ≠ some c := fun e => by have := (hvb _ e).1; omega
          exact q3 c y e2 (c0 c y (by omega) (p3 c y e1 (a0 c y (hkeep c y hc hy))))
        have hgM : Grow m M'' := Grow.keep hg4 fun c y hc hy => hold c y (Nat.lt_of_lt_of_le hc hg4.len) hy
        have hMM : Sl M'' u2 3 (encs d) := by
          rcases hu4 with ⟨rfl, he⟩ | ⟨b, cap, ex, els, h1, rfl, h3, h4⟩
          · rw [he]; exact ⟨rfl, rfl⟩
          · have hbl := (List.getElem?_eq_some_iff.1 h3).1
            exact Pre.sl (B := 0) (.inr ⟨b, cap, ex, els, Nat.zero_le _, rfl, hold b _ hbl h3, h4⟩)
        have tk : ∀ f : Slot → Int, ints ((d.map f).take (i + 1)) = ints ((d.map f).take i) ++ [[.int .u64 (f s)]] := fun f => by
          have : (d.map f)[i]? = some (f s) := by simp [hs]
          obtain ⟨z1, z2⟩ := List.getElem?_eq_some_iff.1 this
          rw [List.take_succ_eq_append_getElem z1, z2]
          simp
        refine ⟨a5, ku', M', p1, ⟨_, ldb, beq_int⟩, b3, ?_⟩
        rw [hB]
        refine ⟨vu', M'', q1, d.length - (i + 1), by omega, i + 1, ku', vu', by omega, rfl, ?_, ?_, ?_, ?_, ?_, hgM, hMM, by omega, hold, ?_, ?_, ?_⟩
        · simp (maxDischargeDepth := 30) only [amL, args0, Nat.reduceEqDiff, reduceCtorEq, ↓reduceIte, Nat.reduceAdd, resultsA, results1, Int.reduceNeg, splice, Nat.reduceLeDiff, part, fillA, fillE, Nat.reduceLT]
        · simp (maxDischargeDepth := 30) only [amL, args0, Nat.reduceEqDiff, reduceCtorEq, ↓reduceIte, Nat.reduceAdd, resultsA, results1, Int.reduceNeg, splice, Nat.reduceLeDiff, part, fillA, fillE, Nat.reduceLT]
        · simp (maxDischargeDepth := 30) only [f22, amL, args0, Nat.reduceEqDiff, reduceCtorEq, ↓reduceIte, Nat.reduceAdd, resultsA, results1, Int.reduceNeg, splice, Nat.reduceLeDiff, part, fillA, fillE, Nat.reduceLT]
        · simp (maxDischargeDepth := 30) only [f23, amL, args0, Nat.reduceEqDiff, reduceCtorEq, ↓reduceIte, Nat.reduceAdd, resultsA, results1, Int.reduceNeg, splice, Nat.reduceLeDiff, part, fillA, fillE, Nat.reduceLT]
        · simp (maxDischargeDepth := 30) only [w1, amL, args0, Nat.reduceEqDiff, reduceCtorEq, ↓reduceIte, Nat.reduceAdd, resultsA, results1, Int.reduceNeg, splice, Nat.reduceLeDiff, part, fillA, fillE, Nat.reduceLT]
        · rw [tk]; exact hku''
        · rw [tk]; exact q2
        · intro c hc
          rw [p4] at hc
          rw [q4]
          intro e
          simp only [Option.some.injEq] at hc e
          omega
      · have : i = d.length := by omega
        subst this
        simp (maxDischargeDepth := 30) only [h, f7, f8, f22, f23, f24, amL, args0, Nat.reduceEqDiff, reduceCtorEq, ↓reduceIte, Nat.reduceAdd, resultsA, results1, Int.reduceNeg, splice, Nat.reduceLeDiff, part, fillA, fillE, Nat.reduceLT]
        rw [List.take_of_length_le (by simp)] at hku hvu
        exact ⟨_, _, rfl, hg, hku.sl, hvu.sl⟩
    · refine ⟨0, .nils, .nils, by omega, rfl, by simp (maxDischargeDepth := 30) only [amL, args0, Nat.reduceEqDiff, reduceCtorEq, ↓reduceIte, Nat.reduceAdd, resultsA, results1, Int.reduceNeg, splice, Nat.reduceLeDiff, part, fillA, fillE, Nat.reduceLT], by simp (maxDischargeDepth := 30) only [amL, args0, Nat.reduceEqDiff, reduceCtorEq, ↓reduceIte, Nat.reduceAdd, resultsA, results1, Int.reduceNeg, splice, Nat.reduceLeDiff, part, fillA, fillE, Nat.reduceLT], by simp (maxDischargeDepth := 30) only [amL, args0, Nat.reduceEqDiff, reduceCtorEq, ↓reduceIte, Nat.reduceAdd, resultsA, results1, Int.reduceNeg, splice, Nat.reduceLeDiff, part, fillA, fillE, Nat.reduceLT], by simp (maxDischargeDepth := 30) only [amL, args0, Nat.reduceEqDiff, reduceCtorEq, ↓reduceIte, Nat.reduceAdd, resultsA, results1, Int.reduceNeg, splice, Nat.reduceLeDiff, part, fillA, fillE, Nat.reduceLT], by simp (maxDischargeDepth := 30) only [amL, args0, Nat.reduceEqDiff, reduceCtorEq, ↓reduceIte, Nat.reduceAdd, resultsA, results1, Int.reduceNeg, splice, Nat.reduceLeDiff, part, fillA, fillE, Nat.reduceLT]; rfl, hg4, hsl, Nat.le_refl _, fun _ _ _ h => h, .inl ⟨rfl, rfl⟩, .inl ⟨rfl, rfl⟩, fun c hc => by cases hc⟩
  · have c : ¬ (2 : Int) = 0 := by omega
    simp (maxDischargeDepth := 30) only [aft_mk, hval, hcell, allL, c, amL, args0, Nat.reduceEqDiff, reduceCtorEq, ↓reduceIte, Nat.reduceAdd, resultsA, results1, Int.reduceNeg, splice, Nat.reduceLeDiff, part, fillA, fillE, Nat.reduceLT]
    exact ⟨_, _, rfl, (Grow.refl _).app.app, ⟨rfl, rfl⟩, ⟨rfl, rfl⟩⟩
end Go.AM.G.E
