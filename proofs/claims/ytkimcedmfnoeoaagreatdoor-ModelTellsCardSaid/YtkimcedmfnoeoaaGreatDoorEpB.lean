/- A table: is it right, and where is a key? -/
import Derived.Test.YtkimcedmfnoeoaaGreatDoorHpA
import Derived.Sort.AssemblyPlain
set_option linter.unusedVariables false
set_option linter.unusedSimpArgs false
set_option maxRecDepth 100000
namespace Go.AM.G.E
open Go Go.AM Go.AM.G
def Pow (n : Int) : Prop := n = 8 ∨ n = 16 ∨ n = 32 ∨ n = 64
instance (n : Int) : Decidable (Pow n) := inferInstanceAs (Decidable (_ ∨ _))
theorem pow_and (n : Int) (h : 8 ≤ n) (h' : n ≤ 64) : (IntKind.i64.wrap ↑(BitVec.ofInt IntKind.i64.bits n &&& BitVec.ofInt IntKind.i64.bits (IntKind.i64.wrap (n - 1))).toNat = 0) ↔ Pow n := by
 obtain ⟨k, rfl⟩ : ∃ k : Fin 57, n = 8 + (k : Nat) := ⟨⟨(n - 8).toNat, by omega⟩, by simp; omega⟩
 revert k
 unfold Pow
 decide +kernel
theorem sized_spec (n : Int) (m : Mem) : C S n_ephem_sized [.int .i64 n] m (fun v m' => v = .bool (decide (Pow n)) ∧ m = m') := by
 refine C_body rfl rfl rfl ?_
 unfold ephem_sized
 simp (maxDischargeDepth := 30) only [amL, args0, Nat.reduceEqDiff, reduceCtorEq, ↓reduceIte, Nat.reduceAdd, resultsA, results1, Int.reduceNeg, splice, Nat.reduceLeDiff, part, fillA, fillE, Nat.reduceLT]
 first | (refine O_split (by simp only [put_apply, Nat.reduceEqDiff, ↓reduceIte, reduceCtorEq]; rfl) (fun h => ?_) (fun h => ?_) <;> simp only [decide_eq_true_eq, decide_eq_false_iff_not, Decidable.not_not, Bool.and_eq_true, Bool.not_eq_true', Bool.not_eq_false'] at h) | (refine W_split (by simp only [get_t, put_apply, Nat.reduceEqDiff, ↓reduceIte, reduceCtorEq]; rfl) (fun h => ?_) (fun h => ?_) <;> simp only [decide_eq_true_eq, decide_eq_false_iff_not, Decidable.not_not, Bool.and_eq_true, Bool.not_eq_true', Bool.not_eq_false'] at h)
 ·simp (maxDischargeDepth := 30) only [h, amL, args0, Nat.reduceEqDiff, reduceCtorEq, ↓reduceIte, Nat.reduceAdd, resultsA, results1, Int.reduceNeg, splice, Nat.reduceLeDiff, part, fillA, fillE, Nat.reduceLT]
  first | (refine O_split (by simp only [put_apply, Nat.reduceEqDiff, ↓reduceIte, reduceCtorEq]; rfl) (fun h' => ?_) (fun h' => ?_) <;> simp only [decide_eq_true_eq, decide_eq_false_iff_not, Decidable.not_not, Bool.and_eq_true, Bool.not_eq_true', Bool.not_eq_false'] at h') | (refine W_split (by simp only [get_t, put_apply, Nat.reduceEqDiff, ↓reduceIte, reduceCtorEq]; rfl) (fun h' => ?_) (fun h' => ?_) <;> simp only [decide_eq_true_eq, decide_eq_false_iff_not, Decidable.not_not, Bool.and_eq_true, Bool.not_eq_true', Bool.not_eq_false'] at h')
  ·simp (maxDischargeDepth := 30) only [h', pow_and n h h', amL, args0, Nat.reduceEqDiff, reduceCtorEq, ↓reduceIte, Nat.reduceAdd, resultsA, results1, Int.reduceNeg, splice, Nat.reduceLeDiff, part, fillA, fillE, Nat.reduceLT]
  ·have : ¬ Pow n := by unfold Pow; omega
   simp (maxDischargeDepth := 30) only [h', this, amL, args0, Nat.reduceEqDiff, reduceCtorEq, ↓reduceIte, Nat.reduceAdd, resultsA, results1, Int.reduceNeg, splice, Nat.reduceLeDiff, part, fillA, fillE, Nat.reduceLT]
 ·have : ¬ Pow n := by unfold Pow; omega
  simp (maxDischargeDepth := 30) only [h, this, amL, args0, Nat.reduceEqDiff, reduceCtorEq, ↓reduceIte, Nat.reduceAdd, resultsA, results1, Int.reduceNeg, splice, Nat.reduceLeDiff, part, fillA, fillE, Nat.reduceLT]
def homeI (key n : Int) : Int := IntKind.i64.wrap ((IntKind.u64.wrap (key * 11400714819323198485)).fdiv (2 ^ (65 - bitLen n).toNat))
theorem home_spec (key n : Int) (m : Mem) (hn : Pow n) : C S n_ephem_home [.int .u64 key, .int .i64 n] m (fun v m' => v = .int .i64 (homeI key n) ∧ m = m') := by
 refine C_body rfl rfl rfl ?_
 unfold ephem_home
 simp (maxDischargeDepth := 30) only [amL, args0, Nat.reduceEqDiff, reduceCtorEq, ↓reduceIte, Nat.reduceAdd, resultsA, results1, Int.reduceNeg, splice, Nat.reduceLeDiff, part, fillA, fillE, Nat.reduceLT]
 have hcall : S.call 1 n_math_bits_Len [.int .u64 (IntKind.u64.wrap n)] m = some (.int .i64 (bitLen (IntKind.u64.wrap n)), m) := by
  rcases hn with rfl | rfl | rfl | rfl <;> rfl
 refine ⟨1, _, _, hcall, ?_⟩
 simp (maxDischargeDepth := 30) only [aft_mk, amL, args0, Nat.reduceEqDiff, reduceCtorEq, ↓reduceIte, Nat.reduceAdd, resultsA, results1, Int.reduceNeg, splice, Nat.reduceLeDiff, part, fillA, fillE, Nat.reduceLT]
 have : shI .shr .u64 (IntKind.u64.wrap (key * 11400714819323198485)) (IntKind.i64.wrap (65 - bitLen (IntKind.u64.wrap n))) = some (.int .u64 ((IntKind.u64.wrap (key * 11400714819323198485)).fdiv (2 ^ (65 - bitLen n).toNat))) := by
  rcases hn with rfl | rfl | rfl | rfl <;> rfl
 simp (maxDischargeDepth := 30) only [this, amL, args0, Nat.reduceEqDiff, reduceCtorEq, ↓reduceIte, Nat.reduceAdd, resultsA, results1, Int.reduceNeg, splice, Nat.reduceLeDiff, part, fillA, fillE, Nat.reduceLT]
 rfl
def cnt (st : Int) (l : List Slot) : Nat := l.countP (fun s => s.st = st)
theorem cnt_succ {st : Int} {l : List Slot} {i : Nat} {s : Slot} (h : l[i]? = some s) : cnt st (l.take (i + 1)) = cnt st (l.take i) + (if s.st = st then 1 else 0) := by
 obtain ⟨hi, e⟩ := List.getElem?_eq_some_iff.1 h
 rw [List.take_succ_eq_append_getElem hi, e]
 simp [cnt, List.countP_append, List.countP_cons]
theorem cnt_le (st : Int) (l : List Slot) : cnt st l ≤ l.length := List.countP_le_length
theorem encs_get {l : List Slot} {i : Nat} {s : Slot} (h : l[i]? = some s) : (encs l)[i]? = some (enc s) := by simp [h]
theorem many_spec {m : Mem} {p v : V} {l : List Slot} (st : Int) (hp : loadV m none p = some v) (hpp : asPtr 0 p = some p) (hv : Sl m v 3 (encs l)) (hl : l.length < 2 ^ 62) : C S n_ephem_table_many [p, .int .u8 st] m (fun v m' => v = .int .i64 (cnt st l) ∧ Grow m m') := by
 refine C_body rfl rfl rfl ?_
 unfold ephem_table_many
 have hlen : (encs l).length = l.length := by simp
 simp (maxDischargeDepth := 30) only [hp, hpp, hv.len, amL, args0, Nat.reduceEqDiff, reduceCtorEq, ↓reduceIte, Nat.reduceAdd, resultsA, results1, Int.reduceNeg, splice, Nat.reduceLeDiff, part, fillA, fillE, Nat.reduceLT]
 let I := fun (k : Nat) (fr : Frame) (M : Mem) => ∃ i : Nat, i ≤ l.length ∧ k = l.length - i ∧ fr 1 = .int .u8 st ∧ fr 12 = v ∧ fr 13 = .int .i64 l.length ∧ fr 14 = .int .i64 i ∧ fr 5 = .int .i64 (cnt st (l.take i)) ∧ Grow m M
 refine W_loop I ?_ l.length ?_
 ·rintro k fr M ⟨i, hi, rfl, h1, h12, h13, h14, h5, hg⟩
  unfold ephem_table_many_l0
  simp (maxDischargeDepth := 30) only [h1, h12, h13, h14, h5, amL, args0, Nat.reduceEqDiff, reduceCtorEq, ↓reduceIte, Nat.reduceAdd, resultsA, results1, Int.reduceNeg, splice, Nat.reduceLeDiff, part, fillA, fillE, Nat.reduceLT]
  first | (refine O_split (by simp only [put_apply, Nat.reduceEqDiff, ↓reduceIte, reduceCtorEq]; rfl) (fun h => ?_) (fun h => ?_) <;> simp only [decide_eq_true_eq, decide_eq_false_iff_not, Decidable.not_not, Bool.and_eq_true, Bool.not_eq_true', Bool.not_eq_false'] at h) | (refine W_split (by simp only [get_t, put_apply, Nat.reduceEqDiff, ↓reduceIte, reduceCtorEq]; rfl) (fun h => ?_) (fun h => ?_) <;> simp only [decide_eq_true_eq, decide_eq_false_iff_not, Decidable.not_not, Bool.and_eq_true, Bool.not_eq_true', Bool.not_eq_false'] at h)
  ·have hil : i < l.length := by omega
   obtain ⟨s, hs⟩ : ∃ s, l[i]? = some s := ⟨_, List.getElem?_eq_getElem hil⟩
   have hcs := cnt_succ (st := st) hs
   have hcl := cnt_le st (l.take i)
   have hsl := hv.grow hg
   rw [List.length_take] at hcl
   have w1 : IntKind.i64.wrap ((i : Int) + 1) = ((i + 1 : Nat) : Int) := by rw [wrap_i64] <;> omega
   have w2 : IntKind.i64.wrap ((cnt st (l.take i) : Int) + 1) = ((cnt st (l.take i) + 1 : Nat) : Int) := by rw [wrap_i64] <;> omega
   simp (maxDischargeDepth := 30) only [h, h1, h12, h13, h14, h5, hsl.index (ki := .i64) (n := i) (by omega) (by omega), hsl.load (encs_get hs), enc, amL, args0, Nat.reduceEqDiff, reduceCtorEq, ↓reduceIte, Nat.reduceAdd, resultsA, results1, Int.reduceNeg, splice, Nat.reduceLeDiff, part, fillA, fillE, Nat.reduceLT]
   first | (refine O_split (by simp only [put_apply, Nat.reduceEqDiff, ↓reduceIte, reduceCtorEq]; rfl) (fun h' => ?_) (fun h' => ?_) <;> simp only [decide_eq_true_eq, decide_eq_false_iff_not, Decidable.not_not, Bool.and_eq_true, Bool.not_eq_true', Bool.not_eq_false'] at h') | (refine W_split (by simp only [get_t, put_apply, Nat.reduceEqDiff, ↓reduceIte, reduceCtorEq]; rfl) (fun h' => ?_) (fun h' => ?_) <;> simp only [decide_eq_true_eq, decide_eq_false_iff_not, Decidable.not_not, Bool.and_eq_true, Bool.not_eq_true', Bool.not_eq_false'] at h')
   ·simp (maxDischargeDepth := 30) only [h1, h12, h13, h14, h5, w1, w2, amL, args0, Nat.reduceEqDiff, reduceCtorEq, ↓reduceIte, Nat.reduceAdd, resultsA, results1, Int.reduceNeg, splice, Nat.reduceLeDiff, part, fillA, fillE, Nat.reduceLT]
    refine ⟨_, ?_, i + 1, by omega, rfl, ?_, ?_, ?_, ?_, ?_, hg.app⟩
    ·omega
    all_goals simp (maxDischargeDepth := 30) only [h1, h12, h13, h14, h5, amL, args0, Nat.reduceEqDiff, reduceCtorEq, ↓reduceIte, Nat.reduceAdd, resultsA, results1, Int.reduceNeg, splice, Nat.reduceLeDiff, part, fillA, fillE, Nat.reduceLT]
    rw [hcs, if_pos h']
   ·simp (maxDischargeDepth := 30) only [h1, h12, h13, h14, h5, w1, w2, amL, args0, Nat.reduceEqDiff, reduceCtorEq, ↓reduceIte, Nat.reduceAdd, resultsA, results1, Int.reduceNeg, splice, Nat.reduceLeDiff, part, fillA, fillE, Nat.reduceLT]
    refine ⟨_, ?_, i + 1, by omega, rfl, ?_, ?_, ?_, ?_, ?_, hg.app⟩
    ·omega
    all_goals simp (maxDischargeDepth := 30) only [h1, h12, h13, h14, h5, amL, args0, Nat.reduceEqDiff, reduceCtorEq, ↓reduceIte, Nat.reduceAdd, resultsA, results1, Int.reduceNeg, splice, Nat.reduceLeDiff, part, fillA, fillE, Nat.reduceLT]
    rw [hcs, if_neg h']
    rfl
  ·simp (maxDischargeDepth := 30) only [h, h1, h12, h13, h14, h5, amL, args0, Nat.reduceEqDiff, reduceCtorEq, ↓reduceIte, Nat.reduceAdd, resultsA, results1, Int.reduceNeg, splice, Nat.reduceLeDiff, part, fillA, fillE, Nat.reduceLT]
   have : l.take i = l := List.take_of_length_le (by omega)
   rw [this]
   exact ⟨rfl, hg⟩
 ·exact ⟨0, by omega, rfl, by simp (maxDischargeDepth := 30) only [amL, args0, Nat.reduceEqDiff, reduceCtorEq, ↓reduceIte, Nat.reduceAdd, resultsA, results1, Int.reduceNeg, splice, Nat.reduceLeDiff, part, fillA, fillE, Nat.reduceLT], by simp (maxDischargeDepth := 30) only [amL, args0, Nat.reduceEqDiff, reduceCtorEq, ↓reduceIte, Nat.reduceAdd, resultsA, results1, Int.reduceNeg, splice, Nat.reduceLeDiff, part, fillA, fillE, Nat.reduceLT], by simp (maxDischargeDepth := 30) only [hlen, amL, args0, Nat.reduceEqDiff, reduceCtorEq, ↓reduceIte, Nat.reduceAdd, resultsA, results1, Int.reduceNeg, splice, Nat.reduceLeDiff, part, fillA, fillE, Nat.reduceLT], by simp (maxDischargeDepth := 30) only [amL, args0, Nat.reduceEqDiff, reduceCtorEq, ↓reduceIte, Nat.reduceAdd, resultsA, results1, Int.reduceNeg, splice, Nat.reduceLeDiff, part, fillA, fillE, Nat.reduceLT]; rfl, by simp (maxDischargeDepth := 30) only [amL, args0, Nat.reduceEqDiff, reduceCtorEq, ↓reduceIte, Nat.reduceAdd, resultsA, results1, Int.reduceNeg, splice, Nat.reduceLeDiff, part, fillA, fillE, Nat.reduceLT]; rfl, Grow.refl _⟩
def findF (l : List Slot) (key : Int) : Nat → Nat → Option Nat → Nat × Bool
 | 0, i, _ => (i, false)
 | f + 1, i, g => match l[i]? with
  | none => (i, false)
  | some s => if s.st = 0 then (g.getD i, false) else if s.st = 1 ∧ s.key = key then (i, true) else findF l key f ((i + 1) % l.length) (if s.st = 2 ∧ g = none then some i else g)
def findL (l : List Slot) (key : Int) : Nat × Bool := if l.length = 0 then (0, false) else findF l key l.length (homeI key l.length).toNat none
theorem home_range {key n : Int} (h : Pow n) : 0 ≤ homeI key n ∧ homeI key n < n := by
 have h0 : ∀ x : Int, 0 ≤ IntKind.u64.wrap x ∧ IntKind.u64.wrap x < 18446744073709551616 := fun x => by rw [IntKind.wrap_u64]; omega
 obtain ⟨a, b⟩ := h0 (key * 11400714819323198485)
 unfold homeI
 have e : ∀ k : Nat, (2 : Int) ^ k ∣ 2 ^ k := fun k => Int.dvd_refl _
 rcases h with rfl | rfl | rfl | rfl
 ·rw [show (65 - bitLen 8).toNat = 61 from rfl, Int.fdiv_eq_ediv_of_nonneg _ (by decide), wrap_i64] <;> omega
 ·rw [show (65 - bitLen 16).toNat = 60 from rfl, Int.fdiv_eq_ediv_of_nonneg _ (by decide), wrap_i64] <;> omega
 ·rw [show (65 - bitLen 32).toNat = 59 from rfl, Int.fdiv_eq_ediv_of_nonneg _ (by decide), wrap_i64] <;> omega
 ·rw [show (65 - bitLen 64).toNat = 58 from rfl, Int.fdiv_eq_ediv_of_nonneg _ (by decide), wrap_i64] <;> omega
def goneI : Option Nat → Int
 | none => -1
 | some i => i
theorem Pow.le {n : Int} (h : Pow n) : 8 ≤ n ∧ n ≤ 64 := by unfold Pow at h; omega
theorem exists_free {l : List Slot} (h : 0 < cnt 0 l) : ∃ (j : Nat) (s : Slot), l[j]? = some s ∧ s.st = 0 := by
 unfold cnt at h
 obtain ⟨s, hs, h0⟩ := List.countP_pos_iff.1 h
 obtain ⟨j, hj⟩ := List.getElem?_of_mem hs
 exact ⟨j, s, hj, by simpa using h0⟩
theorem find_spec {m : Mem} {p v : V} {l : List Slot} (key : Int) (hp0 : loadV m none p = some v) (hpp : asPtr 0 p = some p) (hv : Sl m v 3 (encs l)) (hl : l.length = 0 ∨ Pow l.length ∧ 0 < cnt 0 l) : C S n_ephem_table_find [p, .int .u64 key] m (fun v m' => v = .tup [.int .i64 (findL l key).1, .bool (findL l key).2] ∧ Grow m m') := by
 refine C_body rfl rfl rfl ?_
 unfold ephem_table_find
 have hp := fun g => loadV_some (g := g) hp0
 have hlen : (encs l).length = l.length := by simp
 simp (maxDischargeDepth := 30) only [hp0, hpp, hv.len, hlen, amL, args0, Nat.reduceEqDiff, reduceCtorEq, ↓reduceIte, Nat.reduceAdd, resultsA, results1, Int.reduceNeg, splice, Nat.reduceLeDiff, part, fillA, fillE, Nat.reduceLT]
 first | (refine O_split (by simp only [put_apply, Nat.reduceEqDiff, ↓reduceIte, reduceCtorEq]; rfl) (fun h0 => ?_) (fun h0 => ?_) <;> simp only [decide_eq_true_eq, decide_eq_false_iff_not, Decidable.not_not, Bool.and_eq_true, Bool.not_eq_true', Bool.not_eq_false'] at h0) | (refine W_split (by simp only [get_t, put_apply, Nat.reduceEqDiff, ↓reduceIte, reduceCtorEq]; rfl) (fun h0 => ?_) (fun h0 => ?_) <;> simp only [decide_eq_true_eq, decide_eq_false_iff_not, Decidable.not_not, Bool.and_eq_true, Bool.not_eq_true', Bool.not_eq_false'] at h0)
 ·have h00 : l.length = 0 := by omega
  simp (maxDischargeDepth := 30) only [findL, h00, amL, args0, Nat.reduceEqDiff, reduceCtorEq, ↓reduceIte, Nat.reduceAdd, resultsA, results1, Int.reduceNeg, splice, Nat.reduceLeDiff, part, fillA, fillE, Nat.reduceLT]
  exact ⟨rfl, Grow.refl _⟩
 have h00 : ¬ l.length = 0 := by omega
 obtain ⟨hpow, hfree⟩ : Pow l.length ∧ 0 < cnt 0 l := by rcases hl with h | h; omega; exact h
 have hn := hpow.le
 obtain ⟨hh0, hh1⟩ := home_range (key := key) hpow
 simp (maxDischargeDepth := 30) only [amL, args0, Nat.reduceEqDiff, reduceCtorEq, ↓reduceIte, Nat.reduceAdd, resultsA, results1, Int.reduceNeg, splice, Nat.reduceLeDiff, part, fillA, fillE, Nat.reduceLT]
 refine (home_spec key l.length m hpow).mono ?_
 rintro _ _ ⟨rfl, rfl⟩
 simp (maxDischargeDepth := 30) only [aft_mk, amL, args0, Nat.reduceEqDiff, reduceCtorEq, ↓reduceIte, Nat.reduceAdd, resultsA, results1, Int.reduceNeg, splice, Nat.reduceLeDiff, part, fillA, fillE, Nat.reduceLT]
 obtain ⟨j0, s0, hj0, hs0⟩ := exists_free hfree
 have hjl := (List.getElem?_eq_some_iff.1 hj0).1
 let I := fun (k : Nat) (fr : Frame) (M : Mem) => ∃ (i f : Nat) (g : Option Nat), i < l.length ∧ (i + k) % l.length = j0 ∧ k < f ∧ fr 0 = p ∧ fr 1 = .int .u64 key ∧ fr 6 = .int .i64 l.length ∧ fr 8 = .int .i64 i ∧ fr 7 = .int .i64 (goneI g) ∧ findF l key f i g = findL l key ∧ Grow m M
 have hM : ∀ {M}, Grow m M → loadV M none p = some v := by rintro _ ⟨g, rfl⟩; exact hp g
 refine W_loop I ?_ ((j0 + l.length - (homeI key l.length).toNat) % l.length) ?_
 ·rintro k fr M ⟨i, f, g, hi, hk, hf, h0, h1, h6, h8, h7, hT, hg⟩
  obtain ⟨s, hs⟩ : ∃ s, l[i]? = some s := ⟨_, List.getElem?_eq_getElem hi⟩
  have hsl := hv.grow hg
  obtain ⟨f, rfl⟩ : ∃ f', f = f' + 1 := ⟨f - 1, by omega⟩
  simp only [findF, hs] at hT
  unfold ephem_table_find_l0
  have ix := hsl.index (ki := .i64) (n := i) (by omega) (by omega)
  have ld := fun o k => hsl.load (o := o) (k := k) (encs_get hs)
  simp only [Int.toNat_natCast, enc] at ix ld
  have w1 : IntKind.i64.wrap ((i : Int) + 1) = ((i + 1 : Nat) : Int) := by rw [wrap_i64] <;> omega
  have w2 : ((i + 1 : Nat) : Int).tmod l.length = (((i + 1) % l.length : Nat) : Int) := by rw [Int.tmod_eq_emod_of_nonneg (by omega)]; omega
  have w3 : ¬ ((l.length : Int) = 0) := by omega
  by_cases hz : s.st = 0
  ·rw [if_pos hz] at hT
   have hT1 : (findL l key).1 = g.getD i := by rw [← hT]
   have hT2 : (findL l key).2 = false := by rw [← hT]
   cases g with
   | none =>
    simp only [goneI] at h7
    have c : ¬ ((0 : Int) ≤ -1) := by omega
    simp (maxDischargeDepth := 30) only [h0, h1, h6, h8, h7, hpp, hM hg, ix, ld, hz, c, hT1, hT2, Option.getD_none, amL, args0, Nat.reduceEqDiff, reduceCtorEq, ↓reduceIte, Nat.reduceAdd, resultsA, results1, Int.reduceNeg, splice, Nat.reduceLeDiff, part, fillA, fillE, Nat.reduceLT]
    exact hg
   | some y =>
    simp only [goneI] at h7
    have c : (0 : Int) ≤ y := by omega
    simp (maxDischargeDepth := 30) only [h0, h1, h6, h8, h7, hpp, hM hg, ix, ld, hz, c, hT1, hT2, Option.getD_some, amL, args0, Nat.reduceEqDiff, reduceCtorEq, ↓reduceIte, Nat.reduceAdd, resultsA, results1, Int.reduceNeg, splice, Nat.reduceLeDiff, part, fillA, fillE, Nat.reduceLT]
    exact hg
  rw [if_neg hz] at hT
  by_cases h1k : s.st = 1 ∧ s.key = key
  ·rw [if_pos h1k] at hT
   obtain ⟨h1s, hk1⟩ := h1k
   have hT1 : (findL l key).1 = i := by rw [← hT]
   have hT2 : (findL l key).2 = true := by rw [← hT]
   have c : ¬ ((1 : Int) = 0) := by omega
   simp (maxDischargeDepth := 30) only [h0, h1, h6, h8, h7, hpp, hM hg, ix, ld, h1s, hk1, c, hT1, hT2, amL, args0, Nat.reduceEqDiff, reduceCtorEq, ↓reduceIte, Nat.reduceAdd, resultsA, results1, Int.reduceNeg, splice, Nat.reduceLeDiff, part, fillA, fillE, Nat.reduceLT]
   exact hg.app
  rw [if_neg h1k] at hT
  have hk1 : 1 ≤ k := by
   rcases Nat.eq_zero_or_pos k with h | h
   ·subst h
    rw [Nat.add_zero, Nat.mod_eq_of_lt hi] at hk
    subst hk
    rw [hj0] at hs
    cases hs
    exact absurd hs0 hz
   ·exact h
  have hnext : (i + 1) % l.length < l.length := Nat.mod_lt _ (by omega)
  have hnk : ((i + 1) % l.length + (k - 1)) % l.length = j0 := by
   rw [Nat.mod_add_mod, ← hk]; congr 1; omega
  have fin : ∀ (fr' : Frame) (g' : Option Nat), fr' 0 = p → fr' 1 = .int .u64 key → fr' 6 = .int .i64 l.length → fr' 8 = .int .i64 ((i + 1) % l.length : Nat) → fr' 7 = .int .i64 (goneI g') → findF l key f ((i + 1) % l.length) g' = findL l key → ∀ M' : Mem, Grow m M' → ∃ j, j < k ∧ I j fr' M' := fun fr' g' a0 a1 a6 a8 a7 aT M' hM' => ⟨k - 1, by omega, (i + 1) % l.length, f, g', hnext, hnk, by omega, a0, a1, a6, a8, a7, aT, hM'⟩
  by_cases h1s : s.st = 1
  ·have hkk : ¬ s.key = key := fun e => h1k ⟨h1s, e⟩
   have c : ¬ ((1 : Int) = 0) := by omega
   have c2 : ¬ ((1 : Int) = 2) := by omega
   rw [if_neg (by rw [h1s]; omega)] at hT
   simp (maxDischargeDepth := 30) only [h0, h1, h6, h8, h7, hpp, hM hg, ix, ld, h1s, hkk, c, c2, w1, w2, w3, amL, args0, Nat.reduceEqDiff, reduceCtorEq, ↓reduceIte, Nat.reduceAdd, resultsA, results1, Int.reduceNeg, splice, Nat.reduceLeDiff, part, fillA, fillE, Nat.reduceLT]
   refine fin _ g ?_ ?_ ?_ ?_ ?_ hT _ hg.app
   all_goals simp (maxDischargeDepth := 30) only [h0, h1, h6, h8, h7, amL, args0, Nat.reduceEqDiff, reduceCtorEq, ↓reduceIte, Nat.reduceAdd, resultsA, results1, Int.reduceNeg, splice, Nat.reduceLeDiff, part, fillA, fillE, Nat.reduceLT]
  by_cases h2s : s.st = 2
  ·have c : ¬ ((2 : Int) = 0) := by omega
   have c2 : ¬ ((2 : Int) = 1) := by omega
   cases g with
   | none =>
    rw [if_pos ⟨h2s, rfl⟩] at hT
    simp only [goneI] at h7
    have c3 : (-1 : Int) < 0 := by omega
    simp (maxDischargeDepth := 30) only [h0, h1, h6, h8, h7, hpp, hM hg, ix, ld, h2s, c, c2, c3, w1, w2, w3, amL, args0, Nat.reduceEqDiff, reduceCtorEq, ↓reduceIte, Nat.reduceAdd, resultsA, results1, Int.reduceNeg, splice, Nat.reduceLeDiff, part, fillA, fillE, Nat.reduceLT]
    refine fin _ (some i) ?_ ?_ ?_ ?_ ?_ hT _ hg.app
    all_goals simp (maxDischargeDepth := 30) only [h0, h1, h6, h8, h7, amL, args0, Nat.reduceEqDiff, reduceCtorEq, ↓reduceIte, Nat.reduceAdd, resultsA, results1, Int.reduceNeg, splice, Nat.reduceLeDiff, part, fillA, fillE, Nat.reduceLT]
    rfl
   | some y =>
    rw [if_neg (by simp)] at hT
    simp only [goneI] at h7
    have c3 : ¬ ((y : Int) < 0) := by omega
    simp (maxDischargeDepth := 30) only [h0, h1, h6, h8, h7, hpp, hM hg, ix, ld, h2s, c, c2, c3, w1, w2, w3, amL, args0, Nat.reduceEqDiff, reduceCtorEq, ↓reduceIte, Nat.reduceAdd, resultsA, results1, Int.reduceNeg, splice, Nat.reduceLeDiff, part, fillA, fillE, Nat.reduceLT]
    refine fin _ (some y) ?_ ?_ ?_ ?_ ?_ hT _ hg.app
    all_goals simp (maxDischargeDepth := 30) only [h0, h1, h6, h8, h7, amL, args0, Nat.reduceEqDiff, reduceCtorEq, ↓reduceIte, Nat.reduceAdd, resultsA, results1, Int.reduceNeg, splice, Nat.reduceLeDiff, part, fillA, fillE, Nat.reduceLT]
    rfl
  ·rw [if_neg (fun e => h2s e.1)] at hT
   simp (maxDischargeDepth := 30) only [h0, h1, h6, h8, h7, hpp, hM hg, ix, ld, hz, h1s, h2s, w1, w2, w3, amL, args0, Nat.reduceEqDiff, reduceCtorEq, ↓reduceIte, Nat.reduceAdd, resultsA, results1, Int.reduceNeg, splice, Nat.reduceLeDiff, part, fillA, fillE, Nat.reduceLT]
   refine fin _ g ?_ ?_ ?_ ?_ ?_ hT _ hg.app
   all_goals simp (maxDischargeDepth := 30) only [h0, h1, h6, h8, h7, amL, args0, Nat.reduceEqDiff, reduceCtorEq, ↓reduceIte, Nat.reduceAdd, resultsA, results1, Int.reduceNeg, splice, Nat.reduceLeDiff, part, fillA, fillE, Nat.reduceLT]
 ·refine ⟨(homeI key l.length).toNat, l.length, none, by omega, ?_, Nat.mod_lt _ (by omega), by simp (maxDischargeDepth := 30) only [amL, args0, Nat.reduceEqDiff, reduceCtorEq, ↓reduceIte, Nat.reduceAdd, resultsA, results1, Int.reduceNeg, splice, Nat.reduceLeDiff, part, fillA, fillE, Nat.reduceLT], by simp (maxDischargeDepth := 30) only [amL, args0, Nat.reduceEqDiff, reduceCtorEq, ↓reduceIte, Nat.reduceAdd, resultsA, results1, Int.reduceNeg, splice, Nat.reduceLeDiff, part, fillA, fillE, Nat.reduceLT], by simp (maxDischargeDepth := 30) only [amL, args0, Nat.reduceEqDiff, reduceCtorEq, ↓reduceIte, Nat.reduceAdd, resultsA, results1, Int.reduceNeg, splice, Nat.reduceLeDiff, part, fillA, fillE, Nat.reduceLT], ?_, by simp (maxDischargeDepth := 30) only [amL, args0, Nat.reduceEqDiff, reduceCtorEq, ↓reduceIte, Nat.reduceAdd, resultsA, results1, Int.reduceNeg, splice, Nat.reduceLeDiff, part, fillA, fillE, Nat.reduceLT]; rfl, ?_, Grow.refl _⟩
  ·have h1 : (homeI key l.length).toNat < l.length := by omega
   rw [Nat.add_mod_mod]
   have : (homeI key l.length).toNat + (j0 + l.length - (homeI key l.length).toNat) = j0 + l.length := by omega
   rw [this, Nat.add_mod_right, Nat.mod_eq_of_lt hjl]
  ·simp (maxDischargeDepth := 30) only [amL, args0, Nat.reduceEqDiff, reduceCtorEq, ↓reduceIte, Nat.reduceAdd, resultsA, results1, Int.reduceNeg, splice, Nat.reduceLeDiff, part, fillA, fillE, Nat.reduceLT]
   omega
  ·simp only [findL, if_neg h00]
def okS (l : List Slot) (i : Nat) (s : Slot) : Bool := decide (s.st < 3) && (if s.st = 1 then decide (s.key ≠ 0) && decide (findL l s.key = (i, true)) else decide (s.key = 0 ∧ s.val = 0))
def okFrom (l : List Slot) : Nat → List Slot → Bool
 | _, [] => true
 | i, s :: r => okS l i s && okFrom l (i + 1) r
def validB (l : List Slot) : Bool := decide (l.length = 0) || (decide (Pow l.length) && (decide (l.length ≤ 4 * cnt 0 l) && okFrom l 0 l))
theorem okFrom_drop {l : List Slot} {i : Nat} {s : Slot} (h : l[i]? = some s) : okFrom l i (l.drop i) = (okS l i s && okFrom l (i + 1) (l.drop (i + 1))) := by
 obtain ⟨hi, e⟩ := List.getElem?_eq_some_iff.1 h
 rw [List.drop_eq_getElem_cons hi, e]
 rfl
theorem Check_spec {m : Mem} {v : V} {l : List Slot} (hv : Sl m v 3 (encs l)) (hlt : l.length < 2 ^ 60) : C S n_ephem_Check [.agg [v]] m (fun r m' => r = .int .i64 (if validB l = true then 0 else 2) ∧ Grow m m') := by
 refine C_body rfl rfl rfl ?_
 unfold ephem_Check
 have hlen : (encs l).length = l.length := by simp
 have hcell := hv.cell
 simp (maxDischargeDepth := 30) only [hv.len, hcell, hlen, amL, args0, Nat.reduceEqDiff, reduceCtorEq, ↓reduceIte, Nat.reduceAdd, resultsA, results1, Int.reduceNeg, splice, Nat.reduceLeDiff, part, fillA, fillE, Nat.reduceLT]
 first | (refine O_split (by simp only [put_apply, Nat.reduceEqDiff, ↓reduceIte, reduceCtorEq]; rfl) (fun h0 => ?_) (fun h0 => ?_) <;> simp only [decide_eq_true_eq, decide_eq_false_iff_not, Decidable.not_not, Bool.and_eq_true, Bool.not_eq_true', Bool.not_eq_false'] at h0) | (refine W_split (by simp only [get_t, put_apply, Nat.reduceEqDiff, ↓reduceIte, reduceCtorEq]; rfl) (fun h0 => ?_) (fun h0 => ?_) <;> simp only [decide_eq_true_eq, decide_eq_false_iff_not, Decidable.not_not, Bool.and_eq_true, Bool.not_eq_true', Bool.not_eq_false'] at h0)
 ·have : l.length = 0 := by omega
  simp (maxDischargeDepth := 30) only [validB, this, Bool.true_or, amL, args0, Nat.reduceEqDiff, reduceCtorEq, ↓reduceIte, Nat.reduceAdd, resultsA, results1, Int.reduceNeg, splice, Nat.reduceLeDiff, part, fillA, fillE, Nat.reduceLT]
  exact ((Grow.refl _).app).app
 have h00 : ¬ l.length = 0 := by omega
 have e1 : validB l = (decide (Pow l.length) && (decide (l.length ≤ 4 * cnt 0 l) && okFrom l 0 l)) := by simp [validB, h00]
 simp (maxDischargeDepth := 30) only [amL, args0, Nat.reduceEqDiff, reduceCtorEq, ↓reduceIte, Nat.reduceAdd, resultsA, results1, Int.reduceNeg, splice, Nat.reduceLeDiff, part, fillA, fillE, Nat.reduceLT]
 refine (sized_spec l.length _).mono ?_
 rintro _ _ ⟨rfl, rfl⟩
 simp (maxDischargeDepth := 30) only [aft_mk, amL, args0, Nat.reduceEqDiff, reduceCtorEq, ↓reduceIte, Nat.reduceAdd, resultsA, results1, Int.reduceNeg, splice, Nat.reduceLeDiff, part, fillA, fillE, Nat.reduceLT]
 by_cases hpow : Pow l.length
 ·have hpl := hpow.le
  simp (maxDischargeDepth := 30) only [hpow, amL, args0, Nat.reduceEqDiff, reduceCtorEq, ↓reduceIte, Nat.reduceAdd, resultsA, results1, Int.reduceNeg, splice, Nat.reduceLeDiff, part, fillA, fillE, Nat.reduceLT]
  refine (many_spec (v := v) (l := l) 0 (by simp (maxDischargeDepth := 30) only [amL, args0, Nat.reduceEqDiff, reduceCtorEq, ↓reduceIte, Nat.reduceAdd, resultsA, results1, Int.reduceNeg, splice, Nat.reduceLeDiff, part, fillA, fillE, Nat.reduceLT]) (by simp (maxDischargeDepth := 30) only [amL, args0, Nat.reduceEqDiff, reduceCtorEq, ↓reduceIte, Nat.reduceAdd, resultsA, results1, Int.reduceNeg, splice, Nat.reduceLeDiff, part, fillA, fillE, Nat.reduceLT]) hv.app.app (by omega)).mono ?_
  rintro _ _ ⟨rfl, g, rfl⟩
  have hcl := cnt_le 0 l
  have w1 : IntKind.i64.wrap (4 * (cnt 0 l : Int)) = 4 * (cnt 0 l : Int) := by rw [wrap_i64] <;> omega
  simp (maxDischargeDepth := 30) only [aft_mk, w1, hpow, hcell, amL, args0, Nat.reduceEqDiff, reduceCtorEq, ↓reduceIte, Nat.reduceAdd, resultsA, results1, Int.reduceNeg, splice, Nat.reduceLeDiff, part, fillA, fillE, Nat.reduceLT]
  first | (refine O_split (by simp only [put_apply, Nat.reduceEqDiff, ↓reduceIte, reduceCtorEq]; rfl) (fun h1 => ?_) (fun h1 => ?_) <;> simp only [decide_eq_true_eq, decide_eq_false_iff_not, Decidable.not_not, Bool.and_eq_true, Bool.not_eq_true', Bool.not_eq_false'] at h1) | (refine W_split (by simp only [get_t, put_apply, Nat.reduceEqDiff, ↓reduceIte, reduceCtorEq]; rfl) (fun h1 => ?_) (fun h1 => ?_) <;> simp only [decide_eq_true_eq, decide_eq_false_iff_not, Decidable.not_not, Bool.and_eq_true, Bool.not_eq_true', Bool.not_eq_false'] at h1)
  ·have : ¬ l.length ≤ 4 * cnt 0 l := by omega
   simp (maxDischargeDepth := 30) only [e1, this, Bool.false_and, Bool.and_false, amL, args0, Nat.reduceEqDiff, reduceCtorEq, ↓reduceIte, Nat.reduceAdd, resultsA, results1, Int.reduceNeg, splice, Nat.reduceLeDiff, part, fillA, fillE, Nat.reduceLT]
   exact ((Grow.refl _).app).app.app
  have h4 : l.length ≤ 4 * cnt 0 l := by omega
  have e2 : validB l = okFrom l 0 l := by simp [e1, hpow, h4]
  simp (maxDischargeDepth := 30) only [hv.len, hcell, hlen, amL, args0, Nat.reduceEqDiff, reduceCtorEq, ↓reduceIte, Nat.reduceAdd, resultsA, results1, Int.reduceNeg, splice, Nat.reduceLeDiff, part, fillA, fillE, Nat.reduceLT]
  generalize hM0 : m ++ [Blk.cells true [[v]]] ++ [Blk.cells true [[v]]] ++ g = M0
  generalize hp : V.ptr (List.length (m ++ [Blk.cells true [[v]]])) 0 0 = p
  have hg0 : Grow m M0 := by rw [← hM0]; exact ((Grow.refl _).app).app.app
  have hp0 : loadV M0 none p = some v := by rw [← hM0, ← hp]; simp (maxDischargeDepth := 30) only [amL, args0, Nat.reduceEqDiff, reduceCtorEq, ↓reduceIte, Nat.reduceAdd, resultsA, results1, Int.reduceNeg, splice, Nat.reduceLeDiff, part, fillA, fillE, Nat.reduceLT]
  have hpp : asPtr 0 p = some p := by rw [← hp]; rfl
  have hcnt : 0 < cnt 0 l := by omega
  clear hM0 hp
  let I := fun (k : Nat) (fr : Frame) (M : Mem) => ∃ i : Nat, i ≤ l.length ∧ k = l.length - i ∧ fr 3 = p ∧ fr 28 = v ∧ fr 29 = .int .i64 l.length ∧ fr 30 = .int .i64 i ∧ okFrom l i (l.drop i) = okFrom l 0 l ∧ Grow M0 M
  refine W_loop I ?_ l.length ?_
  ·rintro k fr M ⟨i, hi, rfl, f3, f28, f29, f30, hok, hg⟩
   unfold ephem_Check_l0
   simp (maxDischargeDepth := 30) only [f3, f28, f29, f30, amL, args0, Nat.reduceEqDiff, reduceCtorEq, ↓reduceIte, Nat.reduceAdd, resultsA, results1, Int.reduceNeg, splice, Nat.reduceLeDiff, part, fillA, fillE, Nat.reduceLT]
   first | (refine O_split (by simp only [put_apply, Nat.reduceEqDiff, ↓reduceIte, reduceCtorEq]; rfl) (fun h => ?_) (fun h => ?_) <;> simp only [decide_eq_true_eq, decide_eq_false_iff_not, Decidable.not_not, Bool.and_eq_true, Bool.not_eq_true', Bool.not_eq_false'] at h) | (refine W_split (by simp only [get_t, put_apply, Nat.reduceEqDiff, ↓reduceIte, reduceCtorEq]; rfl) (fun h => ?_) (fun h => ?_) <;> simp only [decide_eq_true_eq, decide_eq_false_iff_not, Decidable.not_not, Bool.and_eq_true, Bool.not_eq_true', Bool.not_eq_false'] at h)
   ·have hil : i < l.length := by omega
    obtain ⟨s, hs⟩ : ∃ s, l[i]? = some s := ⟨_, List.getElem?_eq_getElem hil⟩
    have hsl := (hv.grow hg0).grow hg
    have ix := hsl.index (ki := .i64) (n := i) (by omega) (by omega)
    have ld := fun o k => hsl.load (o := o) (k := k) (encs_get hs)
    simp only [Int.toNat_natCast, enc] at ix ld
    have w1 : IntKind.i64.wrap ((i : Int) + 1) = ((i + 1 : Nat) : Int) := by rw [wrap_i64] <;> omega
    rw [okFrom_drop hs] at hok
    have fin : ∀ (fr' : Frame), fr' 3 = p → fr' 28 = v → fr' 29 = .int .i64 l.length → fr' 30 = .int .i64 (i + 1 : Nat) → okS l i s = true → ∀ M' : Mem, Grow M0 M' → ∃ j, j < l.length - i ∧ I j fr' M' := fun fr' a3 a28 a29 a30 a M' hM' => ⟨l.length - (i + 1), by omega, i + 1, by omega, rfl, a3, a28, a29, a30, by rw [← hok, a, Bool.true_and], hM'⟩
    by_cases c1 : 3 ≤ s.st
    ·have : okS l i s = false := by simp [okS]; omega
     rw [this, Bool.false_and] at hok
     simp (maxDischargeDepth := 30) only [h, f3, f28, f29, f30, ix, ld, c1, e2, ← hok, amL, args0, Nat.reduceEqDiff, reduceCtorEq, ↓reduceIte, Nat.reduceAdd, resultsA, results1, Int.reduceNeg, splice, Nat.reduceLeDiff, part, fillA, fillE, Nat.reduceLT]
     exact hg0.trans hg.app
    by_cases c2 : s.st = 1
    ·have c3 : ¬ ((3 : Int) ≤ 1) := by omega
     simp (maxDischargeDepth := 30) only [h, f3, f28, f29, f30, ix, ld, c2, c3, amL, args0, Nat.reduceEqDiff, reduceCtorEq, ↓reduceIte, Nat.reduceAdd, resultsA, results1, Int.reduceNeg, splice, Nat.reduceLeDiff, part, fillA, fillE, Nat.reduceLT]
     refine (find_spec (v := v) (l := l) s.key (loadV_some (loadV_grow hp0 hg)) hpp hsl.app (.inr ⟨hpow, hcnt⟩)).mono ?_
     rintro _ _ ⟨rfl, g', rfl⟩
     simp (maxDischargeDepth := 30) only [aft_mk, amL, args0, Nat.reduceEqDiff, reduceCtorEq, ↓reduceIte, Nat.reduceAdd, resultsA, results1, Int.reduceNeg, splice, Nat.reduceLeDiff, part, fillA, fillE, Nat.reduceLT]
     by_cases k0 : s.key = 0
     ·have : okS l i s = false := by simp [okS, c2, k0]
      rw [this, Bool.false_and] at hok
      simp (maxDischargeDepth := 30) only [k0, e2, ← hok, amL, args0, Nat.reduceEqDiff, reduceCtorEq, ↓reduceIte, Nat.reduceAdd, resultsA, results1, Int.reduceNeg, splice, Nat.reduceLeDiff, part, fillA, fillE, Nat.reduceLT]
      exact hg0.trans hg.app.app
     by_cases k1 : (findL l s.key).2 = true
     ·by_cases k2 : (findL l s.key).1 = i
      ·have hok1 : okS l i s = true := by simp [okS, c2, k0, Prod.ext_iff, k1, k2]
       have k3 : ((findL l s.key).1 : Int) = i := by omega
       simp (maxDischargeDepth := 30) only [k0, k1, k3, f3, f28, f29, f30, w1, amL, args0, Nat.reduceEqDiff, reduceCtorEq, ↓reduceIte, Nat.reduceAdd, resultsA, results1, Int.reduceNeg, splice, Nat.reduceLeDiff, part, fillA, fillE, Nat.reduceLT]
       refine fin _ ?_ ?_ ?_ ?_ hok1 _ hg.app.app
       all_goals simp (maxDischargeDepth := 30) only [f3, f28, f29, f30, amL, args0, Nat.reduceEqDiff, reduceCtorEq, ↓reduceIte, Nat.reduceAdd, resultsA, results1, Int.reduceNeg, splice, Nat.reduceLeDiff, part, fillA, fillE, Nat.reduceLT]
      ·have : okS l i s = false := by simp [okS, c2, Prod.ext_iff, k2]
       rw [this, Bool.false_and] at hok
       have k3 : ¬ ((findL l s.key).1 : Int) = i := by omega
       simp (maxDischargeDepth := 30) only [k0, k1, k3, f3, f28, f29, f30, e2, ← hok, amL, args0, Nat.reduceEqDiff, reduceCtorEq, ↓reduceIte, Nat.reduceAdd, resultsA, results1, Int.reduceNeg, splice, Nat.reduceLeDiff, part, fillA, fillE, Nat.reduceLT]
       exact hg0.trans hg.app.app
     ·have : okS l i s = false := by simp [okS, c2, Prod.ext_iff, k1]
      rw [this, Bool.false_and] at hok
      simp (maxDischargeDepth := 30) only [k0, k1, f3, f28, f29, f30, e2, ← hok, amL, args0, Nat.reduceEqDiff, reduceCtorEq, ↓reduceIte, Nat.reduceAdd, resultsA, results1, Int.reduceNeg, splice, Nat.reduceLeDiff, part, fillA, fillE, Nat.reduceLT]
      exact hg0.trans hg.app.app
    ·by_cases c3 : s.key = 0 ∧ s.val = 0
     ·obtain ⟨c4, c5⟩ := c3
      have hok1 : okS l i s = true := by simp [okS, c2, c4, c5]; omega
      simp (maxDischargeDepth := 30) only [h, f3, f28, f29, f30, ix, ld, c1, c2, c4, c5, w1, amL, args0, Nat.reduceEqDiff, reduceCtorEq, ↓reduceIte, Nat.reduceAdd, resultsA, results1, Int.reduceNeg, splice, Nat.reduceLeDiff, part, fillA, fillE, Nat.reduceLT]
      refine fin _ ?_ ?_ ?_ ?_ hok1 _ hg.app
      all_goals simp (maxDischargeDepth := 30) only [f3, f28, f29, f30, amL, args0, Nat.reduceEqDiff, reduceCtorEq, ↓reduceIte, Nat.reduceAdd, resultsA, results1, Int.reduceNeg, splice, Nat.reduceLeDiff, part, fillA, fillE, Nat.reduceLT]
     ·have : okS l i s = false := by simp [okS, c2]; intro _ a b; exact c3 ⟨a, b⟩
      rw [this, Bool.false_and] at hok
      have c6 : (decide (s.key = 0) && decide (s.val = 0)) = false := by simpa using c3
      simp (maxDischargeDepth := 30) only [h, f3, f28, f29, f30, ix, ld, c1, c2, c6, e2, ← hok, amL, args0, Nat.reduceEqDiff, reduceCtorEq, ↓reduceIte, Nat.reduceAdd, resultsA, results1, Int.reduceNeg, splice, Nat.reduceLeDiff, part, fillA, fillE, Nat.reduceLT]
      exact hg0.trans hg.app
   ·have : i = l.length := by omega
    subst this
    rw [List.drop_length] at hok
    simp (maxDischargeDepth := 30) only [h, f3, f28, f29, f30, e2, ← hok, okFrom, amL, args0, Nat.reduceEqDiff, reduceCtorEq, ↓reduceIte, Nat.reduceAdd, resultsA, results1, Int.reduceNeg, splice, Nat.reduceLeDiff, part, fillA, fillE, Nat.reduceLT]
    exact hg0.trans hg
  ·exact ⟨0, by omega, rfl, by simp (maxDischargeDepth := 30) only [amL, args0, Nat.reduceEqDiff, reduceCtorEq, ↓reduceIte, Nat.reduceAdd, resultsA, results1, Int.reduceNeg, splice, Nat.reduceLeDiff, part, fillA, fillE, Nat.reduceLT], by simp (maxDischargeDepth := 30) only [amL, args0, Nat.reduceEqDiff, reduceCtorEq, ↓reduceIte, Nat.reduceAdd, resultsA, results1, Int.reduceNeg, splice, Nat.reduceLeDiff, part, fillA, fillE, Nat.reduceLT], by simp (maxDischargeDepth := 30) only [amL, args0, Nat.reduceEqDiff, reduceCtorEq, ↓reduceIte, Nat.reduceAdd, resultsA, results1, Int.reduceNeg, splice, Nat.reduceLeDiff, part, fillA, fillE, Nat.reduceLT], by simp (maxDischargeDepth := 30) only [amL, args0, Nat.reduceEqDiff, reduceCtorEq, ↓reduceIte, Nat.reduceAdd, resultsA, results1, Int.reduceNeg, splice, Nat.reduceLeDiff, part, fillA, fillE, Nat.reduceLT]; rfl, by simp, Grow.refl _⟩
 ·simp (maxDischargeDepth := 30) only [hpow, e1, Bool.false_and, amL, args0, Nat.reduceEqDiff, reduceCtorEq, ↓reduceIte, Nat.reduceAdd, resultsA, results1, Int.reduceNeg, splice, Nat.reduceLeDiff, part, fillA, fillE, Nat.reduceLT]
  exact ((Grow.refl _).app).app
theorem valid_cases {l : List Slot} (h : validB l = true) : l.length = 0 ∨ Pow l.length ∧ 0 < cnt 0 l := by
 simp only [validB, Bool.or_eq_true, Bool.and_eq_true, decide_eq_true_eq] at h
 rcases h with h | ⟨h1, h2, _⟩
 ·exact .inl h
 ·have := h1.le
  exact .inr ⟨h1, by omega⟩
theorem valid_len {l : List Slot} (h : validB l = true) : l.length ≤ 64 := by
 rcases valid_cases h with h | ⟨h, _⟩
 ·omega
 ·have := h.le; omega
theorem tSort_some {a : List V} {m : Mem} {v : V} {m' : Mem} (e : tSort a m = some (v, m')) : (a = [.nils, .fn n_ephem_All_2 [] []] ∧ v = .tup [] ∧ m' = m) ∨ ∃ b cap ex g els d, a = [.slice b 0 (List.length d) cap ex 3, .fn g [] []] ∧ m[b]? = some (.cells true els) ∧ g = n_ephem_All_2 ∧ d.length < 4611686018427387904 ∧ els.take d.length = encs d ∧ v = .tup [] ∧ m' = m.set b (.cells true (encs (srtL d) ++ els.drop d.length)) := by
 unfold tSort at e
 split at e
 ·rename_i m0 b len cap ex g
  split at e
  ·rename_i els hb
   split at e
   ·rename_i hc
    obtain ⟨h1, h2, h3, h4⟩ := hc
    cases e
    have hl : ((els.take len).map dec).length = len := by simp; omega
    have he : encs ((els.take len).map dec) = els.take len := by
     rw [encs, List.map_map]
     conv => rhs; rw [← List.map_id (els.take len)]
     refine List.map_congr_left fun el hel => ?_
     exact enc_dec (List.all_eq_true.1 h4 el hel)
    exact .inr ⟨b, cap, ex, g, els, (els.take len).map dec, by rw [hl], hb, h1, by rw [hl]; exact h3, by rw [hl, he], rfl, by rw [hl]⟩
   ·cases e
  ·cases e
 ·split at e
  ·rename_i hg
   cases e
   exact .inl ⟨by rw [hg], rfl, rfl⟩
  ·cases e
 ·cases e
theorem tSort_eq {b cap : Nat} {ex : Bool} {els : List (List V)} {d : List Slot} {m : Mem} (hb : m[b]? = some (.cells true els)) (hd : d.length < 4611686018427387904) (he : els.take d.length = encs d) : tSort [.slice b 0 d.length cap ex 3, .fn n_ephem_All_2 [] []] m = some (.tup [], m.set b (.cells true (encs (srtL d) ++ els.drop d.length))) := by
 have hl : d.length ≤ els.length := by
  have := congrArg List.length he
  simp only [List.length_take, List.length_map] at this
  omega
 have ha : (els.take d.length).all isEl = true := by
  rw [he, List.all_eq_true]
  intro x hx
  obtain ⟨s, _, rfl⟩ := List.mem_map.1 hx
  rfl
 have hm : (els.take d.length).map dec = d := by
  rw [he, encs, List.map_map]
  conv => rhs; rw [← List.map_id d]
  exact List.map_congr_left fun s _ => dec_enc s
 simp only [tSort, hb, hm]
 exact if_pos ⟨trivial, hl, hd, ha⟩
end Go.AM.G.E
set_option maxRecDepth 100000
namespace Go.AM.G.E
open Go Go.AM Go.AM.G
def capOk : V → Bool
 | .slice _ _ len cap _ _ => decide (len ≤ cap)
 | _ => true
theorem append_cap {m m' : Mem} {zero : List V} {bytes b z : Nat} {v u : V} (h : appendV m zero bytes (.slice b 0 0 0 true z) v = some (u, m')) : capOk u = true := by
 unfold appendV at h
 split at h
 ·cases h
 split at h
 ·cases h
 dsimp only at h
 split at h
 ·cases h
 split at h
 ·cases h; rfl
 rename_i hne
 split at h
 ·split at h
  ·split at h
   ·rename_i ys _ _ hle
    exfalso
    simp only [List.isEmpty_iff] at hne
    exact hne (List.length_eq_zero_iff.1 (by omega))
   ·split at h
    ·simp only [if_true, Option.some.injEq, Prod.mk.injEq] at h
     rw [← h.1]
     simp [capOk]
    ·cases h
  ·cases h
 ·cases h
theorem Clone_spec' {m : Mem} {v : V} {l : List Slot} (hv : Sl m v 3 (encs l)) (hl : l.length < 5864062014806) : C S n_slices_Clone_EphSlot [v] m (fun r m' => Grow m m' ∧ Fresh m.length m' r 3 (encs l) ∧ capOk r = true) := by
 refine C_body rfl rfl rfl ?_
 unfold slices_Clone_EphSlot
 have hlen : (encs l).length = l.length := by simp
 rcases hv.cases with ⟨rfl, he⟩ | ⟨b, i, len, cap, ex, rfl⟩
 ·simp (maxDischargeDepth := 30) only [amL, args0, Nat.reduceEqDiff, reduceCtorEq, ↓reduceIte, Nat.reduceAdd, resultsA, results1, Int.reduceNeg, splice, Nat.reduceLeDiff, part, fillA, fillE, Nat.reduceLT]
  exact ⟨Grow.refl _, Fresh.mk (.inl ⟨rfl, he⟩), rfl⟩
 ·simp (maxDischargeDepth := 30) only [amL, args0, Nat.reduceEqDiff, reduceCtorEq, ↓reduceIte, Nat.reduceAdd, resultsA, results1, Int.reduceNeg, splice, Nat.reduceLeDiff, part, fillA, fillE, Nat.reduceLT]
  obtain ⟨v', m', h1, h2, h3⟩ := append_new (zero := [V.int .u8 0, V.int .u64 0, V.int .u64 0]) (bytes := 24) hv rfl (by omega) (by omega)
  refine ⟨v', m', h1, ?_⟩
  exact ⟨h2, h3, append_cap h1⟩
theorem All1_spec {m : Mem} (s : Slot) : C S n_ephem_All_1 [.agg (enc s)] m (fun r m' => r = .bool (decide (s.st ≠ 1)) ∧ Grow m m') := by
 refine C_body rfl rfl rfl ?_
 unfold ephem_All_1
 simp (maxDischargeDepth := 30) only [enc, amL, args0, Nat.reduceEqDiff, reduceCtorEq, ↓reduceIte, Nat.reduceAdd, resultsA, results1, Int.reduceNeg, splice, Nat.reduceLeDiff, part, fillA, fillE, Nat.reduceLT]
 exact (Grow.refl _).app
def used (l : List Slot) : List Slot := l.filter fun s => decide (s.st = 1)
theorem IndexFunc_spec {m : Mem} {v : V} {l : List Slot} (hv : Sl m v 3 (encs l)) (hl : l.length < 2 ^ 60) : C S n_slices_IndexFunc_EphSlot [v, .fn n_ephem_All_1 [] []] m (fun r m' => Grow m m' ∧ ((r = .int .i64 (-1) ∧ used l = l) ∨ ∃ i s, r = .int .i64 (i : Nat) ∧ l[i]? = some s ∧ s.st ≠ 1 ∧ used (l.take i) = l.take i)) := by
 refine C_body rfl rfl rfl ?_
 unfold slices_IndexFunc_EphSlot
 have hlen : (encs l).length = l.length := by simp
 simp (maxDischargeDepth := 30) only [hv.len, hlen, amL, args0, Nat.reduceEqDiff, reduceCtorEq, ↓reduceIte, Nat.reduceAdd, resultsA, results1, Int.reduceNeg, splice, Nat.reduceLeDiff, part, fillA, fillE, Nat.reduceLT]
 let I := fun (k : Nat) (fr : Frame) (M : Mem) => ∃ i : Nat, i ≤ l.length ∧ k = l.length - i ∧ fr 0 = v ∧ fr 1 = .fn n_ephem_All_1 [] [] ∧ fr 7 = .int .i64 l.length ∧ fr 8 = .int .i64 i ∧ used (l.take i) = l.take i ∧ Grow m M
 refine W_loop I ?_ l.length ?_
 ·rintro k fr M ⟨i, hi, rfl, h0, h1, h7, h8, hu, hg⟩
  unfold slices_IndexFunc_EphSlot_l0
  simp (maxDischargeDepth := 30) only [h0, h1, h7, h8, amL, args0, Nat.reduceEqDiff, reduceCtorEq, ↓reduceIte, Nat.reduceAdd, resultsA, results1, Int.reduceNeg, splice, Nat.reduceLeDiff, part, fillA, fillE, Nat.reduceLT]
  first | (refine O_split (by simp only [put_apply, Nat.reduceEqDiff, ↓reduceIte, reduceCtorEq]; rfl) (fun h => ?_) (fun h => ?_) <;> simp only [decide_eq_true_eq, decide_eq_false_iff_not, Decidable.not_not, Bool.and_eq_true, Bool.not_eq_true', Bool.not_eq_false'] at h) | (refine W_split (by simp only [get_t, put_apply, Nat.reduceEqDiff, ↓reduceIte, reduceCtorEq]; rfl) (fun h => ?_) (fun h => ?_) <;> simp only [decide_eq_true_eq, decide_eq_false_iff_not, Decidable.not_not, Bool.and_eq_true, Bool.not_eq_true', Bool.not_eq_false'] at h)
  ·have hil : i < l.length := by omega
   obtain ⟨s, hs⟩ : ∃ s, l[i]? = some s := ⟨_, List.getElem?_eq_getElem hil⟩
   have hsl := hv.grow hg
   have ix := hsl.index (ki := .i64) (n := i) (by omega) (by omega)
   have ld := fun o k => hsl.load (o := o) (k := k) (encs_get hs)
   simp only [Int.toNat_natCast, enc] at ix ld
   have w1 : IntKind.i64.wrap ((i : Int) + 1) = ((i + 1 : Nat) : Int) := by rw [wrap_i64] <;> omega
   simp (maxDischargeDepth := 30) only [h, h0, h1, h7, h8, ix, ld, amL, args0, Nat.reduceEqDiff, reduceCtorEq, ↓reduceIte, Nat.reduceAdd, resultsA, results1, Int.reduceNeg, splice, Nat.reduceLeDiff, part, fillA, fillE, Nat.reduceLT]
   refine (All1_spec s).mono ?_
   rintro _ _ ⟨rfl, hg'⟩
   by_cases hst : s.st = 1
   ·simp (maxDischargeDepth := 30) only [aft_mk, hst, h0, h1, h7, h8, w1, amL, args0, Nat.reduceEqDiff, reduceCtorEq, ↓reduceIte, Nat.reduceAdd, resultsA, results1, Int.reduceNeg, splice, Nat.reduceLeDiff, part, fillA, fillE, Nat.reduceLT]
    refine ⟨_, ?_, i + 1, by omega, rfl, ?_, ?_, ?_, ?_, ?_, hg.trans hg'⟩
    ·omega
    ·simp (maxDischargeDepth := 30) only [h0, amL, args0, Nat.reduceEqDiff, reduceCtorEq, ↓reduceIte, Nat.reduceAdd, resultsA, results1, Int.reduceNeg, splice, Nat.reduceLeDiff, part, fillA, fillE, Nat.reduceLT]
    ·simp (maxDischargeDepth := 30) only [h1, amL, args0, Nat.reduceEqDiff, reduceCtorEq, ↓reduceIte, Nat.reduceAdd, resultsA, results1, Int.reduceNeg, splice, Nat.reduceLeDiff, part, fillA, fillE, Nat.reduceLT]
    ·simp (maxDischargeDepth := 30) only [h7, amL, args0, Nat.reduceEqDiff, reduceCtorEq, ↓reduceIte, Nat.reduceAdd, resultsA, results1, Int.reduceNeg, splice, Nat.reduceLeDiff, part, fillA, fillE, Nat.reduceLT]
    ·simp (maxDischargeDepth := 30) only [amL, args0, Nat.reduceEqDiff, reduceCtorEq, ↓reduceIte, Nat.reduceAdd, resultsA, results1, Int.reduceNeg, splice, Nat.reduceLeDiff, part, fillA, fillE, Nat.reduceLT]
    ·obtain ⟨a1, e1⟩ := List.getElem?_eq_some_iff.1 hs
     rw [List.take_succ_eq_append_getElem a1, e1]
     unfold used at hu ⊢
     rw [List.filter_append, hu]
     simp [hst]
   ·simp (maxDischargeDepth := 30) only [aft_mk, hst, h0, h1, h7, h8, w1, amL, args0, Nat.reduceEqDiff, reduceCtorEq, ↓reduceIte, Nat.reduceAdd, resultsA, results1, Int.reduceNeg, splice, Nat.reduceLeDiff, part, fillA, fillE, Nat.reduceLT]
    exact ⟨hg.trans hg', .inr ⟨i, s, rfl, hs, hst, hu⟩⟩
  ·simp (maxDischargeDepth := 30) only [h, h0, h1, h7, h8, amL, args0, Nat.reduceEqDiff, reduceCtorEq, ↓reduceIte, Nat.reduceAdd, resultsA, results1, Int.reduceNeg, splice, Nat.reduceLeDiff, part, fillA, fillE, Nat.reduceLT]
   have : l.take i = l := List.take_of_length_le (by omega)
   rw [this] at hu
   exact ⟨hg, .inl hu⟩
 ·exact ⟨0, by omega, rfl, by simp (maxDischargeDepth := 30) only [amL, args0, Nat.reduceEqDiff, reduceCtorEq, ↓reduceIte, Nat.reduceAdd, resultsA, results1, Int.reduceNeg, splice, Nat.reduceLeDiff, part, fillA, fillE, Nat.reduceLT], by simp (maxDischargeDepth := 30) only [amL, args0, Nat.reduceEqDiff, reduceCtorEq, ↓reduceIte, Nat.reduceAdd, resultsA, results1, Int.reduceNeg, splice, Nat.reduceLeDiff, part, fillA, fillE, Nat.reduceLT], by simp (maxDischargeDepth := 30) only [amL, args0, Nat.reduceEqDiff, reduceCtorEq, ↓reduceIte, Nat.reduceAdd, resultsA, results1, Int.reduceNeg, splice, Nat.reduceLeDiff, part, fillA, fillE, Nat.reduceLT], by simp (maxDischargeDepth := 30) only [amL, args0, Nat.reduceEqDiff, reduceCtorEq, ↓reduceIte, Nat.reduceAdd, resultsA, results1, Int.reduceNeg, splice, Nat.reduceLeDiff, part, fillA, fillE, Nat.reduceLT]; rfl, rfl, Grow.refl _⟩
def Pre (B : Nat) (M : Mem) (u : V) (l : List Slot) : Prop := (u = .nils ∧ l = []) ∨ ∃ b cap ex els, B ≤ b ∧ u = .slice b 0 l.length cap ex 3 ∧ M[b]? = some (.cells true els) ∧ els.take l.length = encs l
theorem Pre.sl {B : Nat} {M : Mem} {u : V} {l : List Slot} (h : Pre B M u l) : Sl M u 3 (encs l) := by
 rcases h with ⟨rfl, rfl⟩ | ⟨b, cap, ex, els, h1, rfl, h3, h4⟩
 ·exact ⟨rfl, rfl⟩
 ·have hl : l.length ≤ els.length := by
   have := congrArg List.length h4
   simp only [List.length_take, List.length_map] at this
   omega
  simp [Sl, elems, h3, zOk, hl, h4]
theorem used_snoc {l : List Slot} {j : Nat} {s : Slot} (hs : l[j]? = some s) : used (l.take (j + 1)) = used (l.take j) ++ (if s.st = 1 then [s] else []) := by
 obtain ⟨a1, e1⟩ := List.getElem?_eq_some_iff.1 hs
 rw [List.take_succ_eq_append_getElem a1, e1]
 unfold used
 rw [List.filter_append]
 congr 1
 by_cases h : s.st = 1 <;> simp [h]
theorem DeleteFunc_spec {m : Mem} {v : V} {l : List Slot} {m0 : Mem} {B : Nat} (hB : m0.length ≤ B) (hg0 : Grow m0 m) (hv : Fresh B m v 3 (encs l)) (hc : capOk v = true) (hl : l.length < 2 ^ 60) : C S n_slices_DeleteFunc_EphSlot [v, .fn n_ephem_All_1 [] []] m (fun r m' => Grow m0 m' ∧ Pre B m' r (used l)) := by
 refine C_body rfl rfl rfl ?_
 unfold slices_DeleteFunc_EphSlot
 have hlen : (encs l).length = l.length := by simp
 simp (maxDischargeDepth := 30) only [amL, args0, Nat.reduceEqDiff, reduceCtorEq, ↓reduceIte, Nat.reduceAdd, resultsA, results1, Int.reduceNeg, splice, Nat.reduceLeDiff, part, fillA, fillE, Nat.reduceLT]
 refine (IndexFunc_spec hv.1 hl).mono ?_
 rintro r m1 ⟨hg1, ⟨rfl, hu⟩ | ⟨i, s, rfl, hs, hst, hu⟩⟩
 ·simp (maxDischargeDepth := 30) only [aft_mk, amL, args0, Nat.reduceEqDiff, reduceCtorEq, ↓reduceIte, Nat.reduceAdd, resultsA, results1, Int.reduceNeg, splice, Nat.reduceLeDiff, part, fillA, fillE, Nat.reduceLT]
  refine ⟨hg0.trans hg1, ?_⟩
  rw [hu]
  rcases (hv.grow hg1).cases with ⟨rfl, he⟩ | ⟨b, cap, ex, h1, rfl, h3⟩
  ·exact .inl ⟨rfl, by simpa using he⟩
  ·exact .inr ⟨b, cap, ex, _, h1, by simp, h3, by rw [← hlen, List.take_length]⟩
 obtain ⟨hil, hie⟩ := List.getElem?_eq_some_iff.1 hs
 rcases (hv.grow hg1).cases with ⟨rfl, he⟩ | ⟨b, cap, ex, h1, rfl, h3⟩
 ·have : l.length = 0 := by rw [← hlen, he]; rfl
  omega
 have hcap : l.length ≤ cap := by simpa [capOk] using hc
 have c0 : ¬ (i : Int) = -1 := by omega
 have w0 : IntKind.i64.wrap ((i : Int) + 1) = ((i + 1 : Nat) : Int) := by rw [wrap_i64] <;> omega
 simp (maxDischargeDepth := 30) only [aft_mk, c0, w0, amL, args0, Nat.reduceEqDiff, reduceCtorEq, ↓reduceIte, Nat.reduceAdd, resultsA, results1, Int.reduceNeg, splice, Nat.reduceLeDiff, part, fillA, fillE, Nat.reduceLT]
 let I := fun (k : Nat) (fr : Frame) (M : Mem) => ∃ (j : Nat) (t : List Slot), j ≤ l.length ∧ k = l.length - j ∧ fr 0 = .slice b 0 l.length cap ex 3 ∧ fr 1 = .fn n_ephem_All_1 [] [] ∧ fr 5 = .int .i64 (used (l.take j)).length ∧ fr 6 = .int .i64 j ∧ Grow m0 M ∧ M[b]? = some (.cells true (encs t)) ∧ t.length = l.length ∧ t.take (used (l.take j)).length = used (l.take j) ∧ t.drop j = l.drop j ∧ (used (l.take j)).length < j
 rw [hlen]
 refine W_loop I ?_ (l.length - (i + 1)) ?_
 ·rintro k fr M ⟨j, t, hj, rfl, f0, f1, f5, f6, hg, hMb, htl, htt, htd, hlt⟩
  unfold slices_DeleteFunc_EphSlot_l0
  simp (maxDischargeDepth := 30) only [f0, f1, f5, f6, amL, args0, Nat.reduceEqDiff, reduceCtorEq, ↓reduceIte, Nat.reduceAdd, resultsA, results1, Int.reduceNeg, splice, Nat.reduceLeDiff, part, fillA, fillE, Nat.reduceLT]
  have hsl : Sl M (.slice b 0 l.length cap ex 3) 3 (encs t) := by
   have : (encs t).length = l.length := by simp [htl]
   rw [← this]
   exact Sl.mk hMb
  have hel : (encs t).length = l.length := by simp [htl]
  generalize hn : (used (l.take j)).length = n at *
  first | (refine O_split (by simp only [put_apply, Nat.reduceEqDiff, ↓reduceIte, reduceCtorEq]; rfl) (fun h => ?_) (fun h => ?_) <;> simp only [decide_eq_true_eq, decide_eq_false_iff_not, Decidable.not_not, Bool.and_eq_true, Bool.not_eq_true', Bool.not_eq_false'] at h) | (refine W_split (by simp only [get_t, put_apply, Nat.reduceEqDiff, ↓reduceIte, reduceCtorEq]; rfl) (fun h => ?_) (fun h => ?_) <;> simp only [decide_eq_true_eq, decide_eq_false_iff_not, Decidable.not_not, Bool.and_eq_true, Bool.not_eq_true', Bool.not_eq_false'] at h)
  ·have hjl : j < l.length := by omega
   obtain ⟨x, hx⟩ : ∃ x, l[j]? = some x := ⟨_, List.getElem?_eq_getElem hjl⟩
   have htx : t[j]? = some x := by
    have := congrArg (fun z : List Slot => z[0]?) htd
    simpa [List.getElem?_drop, hx] using this
   have hus := used_snoc hx
   have ix := hsl.index (ki := .i64) (n := j) (by omega) (by omega)
   have ld := fun o k => hsl.load (o := o) (k := k) (encs_get htx)
   simp only [Int.toNat_natCast, enc] at ix ld
   have w1 : IntKind.i64.wrap ((j : Int) + 1) = ((j + 1 : Nat) : Int) := by rw [wrap_i64] <;> omega
   have w2 : IntKind.i64.wrap ((n : Int) + 1) = ((n + 1 : Nat) : Int) := by rw [wrap_i64] <;> omega
   have l1 := fun k => load_at0 (M := M ++ [Blk.cells true [enc x]]) (b := M.length) (own := true) (el := enc x) (k := k) (j := 0) (by simp)
   simp only [enc] at l1
   simp (maxDischargeDepth := 30) only [h, f0, f1, f5, f6, ix, ld, l1, amL, args0, Nat.reduceEqDiff, reduceCtorEq, ↓reduceIte, Nat.reduceAdd, resultsA, results1, Int.reduceNeg, splice, Nat.reduceLeDiff, part, fillA, fillE, Nat.reduceLT]
   refine (All1_spec x).mono ?_
   rintro _ M' ⟨rfl, g', rfl⟩
   have hMb2 : (M ++ [Blk.cells true [[V.int .u8 x.st, V.int .u64 x.key, V.int .u64 x.val]]] ++ g')[b]? = some (.cells true (encs t)) := getElem?_grow (getElem?_grow hMb)
   have hg2 : Grow m0 (M ++ [Blk.cells true [[V.int .u8 x.st, V.int .u64 x.key, V.int .u64 x.val]]] ++ g') := hg.app.app
   have l2 := fun k => load_at0 (M := M ++ [Blk.cells true [[V.int .u8 x.st, V.int .u64 x.key, V.int .u64 x.val]]] ++ g') (b := M.length) (own := true) (el := [V.int .u8 x.st, V.int .u64 x.key, V.int .u64 x.val]) (k := k) (j := 0) (getElem?_grow (by simp))
   have hsl2 := (hsl.app (g := [Blk.cells true [[V.int .u8 x.st, V.int .u64 x.key, V.int .u64 x.val]]])).app (g := g')
   generalize M ++ [Blk.cells true [[V.int .u8 x.st, V.int .u64 x.key, V.int .u64 x.val]]] ++ g' = M2 at hMb2 hg2 l2 hsl2
   by_cases hxs : x.st = 1
   ·rw [if_pos hxs] at hus
    have hn1 : (used (l.take (j + 1))).length = n + 1 := by rw [hus, List.length_append, hn]; rfl
    obtain ⟨y, hy⟩ : ∃ y, t[n]? = some y := ⟨_, List.getElem?_eq_getElem (by omega)⟩
    have ix2 := hsl2.index (ki := .i64) (n := n) (by omega) (by omega)
    have st := store_own (n := 3) (len := l.length) (cap := cap) (z := 3) (ex := ex) (x := .agg [.int .u8 x.st, .int .u64 x.key, .int .u64 x.val]) hMb2 (encs_get hy) rfl rfl rfl
    have e : (encs t).set n [.int .u8 x.st, .int .u64 x.key, .int .u64 x.val] = encs (t.set n x) := by simp [List.map_set, enc]
    simp only [Int.toNat_natCast, cells_agg, e] at ix2 st
    have hbl := (List.getElem?_eq_some_iff.1 hMb2).1
    have hn0 : ¬ ¬ x.st = 1 := fun h => h hxs
    simp (maxDischargeDepth := 30) only [aft_mk, hn0, f0, f1, f5, f6, l2, ix2, st, w1, w2, amL, args0, Nat.reduceEqDiff, reduceCtorEq, ↓reduceIte, Nat.reduceAdd, resultsA, results1, Int.reduceNeg, splice, Nat.reduceLeDiff, part, fillA, fillE, Nat.reduceLT]
    refine ⟨_, ?_, j + 1, t.set n x, by omega, rfl, ?_, ?_, ?_, ?_, hg2.set (by omega) _, List.getElem?_set_self hbl, by simp [htl], ?_, ?_, by rw [hn1]; omega⟩
    ·omega
    ·simp (maxDischargeDepth := 30) only [f0, amL, args0, Nat.reduceEqDiff, reduceCtorEq, ↓reduceIte, Nat.reduceAdd, resultsA, results1, Int.reduceNeg, splice, Nat.reduceLeDiff, part, fillA, fillE, Nat.reduceLT]
    ·simp (maxDischargeDepth := 30) only [f1, amL, args0, Nat.reduceEqDiff, reduceCtorEq, ↓reduceIte, Nat.reduceAdd, resultsA, results1, Int.reduceNeg, splice, Nat.reduceLeDiff, part, fillA, fillE, Nat.reduceLT]
    ·simp (maxDischargeDepth := 30) only [amL, args0, Nat.reduceEqDiff, reduceCtorEq, ↓reduceIte, Nat.reduceAdd, resultsA, results1, Int.reduceNeg, splice, Nat.reduceLeDiff, part, fillA, fillE, Nat.reduceLT]; rw [hn1]
    ·simp (maxDischargeDepth := 30) only [amL, args0, Nat.reduceEqDiff, reduceCtorEq, ↓reduceIte, Nat.reduceAdd, resultsA, results1, Int.reduceNeg, splice, Nat.reduceLeDiff, part, fillA, fillE, Nat.reduceLT]
    ·rw [hn1, List.take_set, hus]
     have a2 : t.take (n + 1) = t.take n ++ [y] := by
      obtain ⟨a3, e3⟩ := List.getElem?_eq_some_iff.1 hy
      rw [List.take_succ_eq_append_getElem a3, e3]
     rw [a2, htt, List.set_append_right _ _ (by rw [hn]; omega), hn]
     simp
    ·rw [List.drop_set, if_pos (by omega)]
     have := congrArg (List.drop 1) htd
     simpa [List.drop_drop] using this
   ·rw [if_neg hxs, List.append_nil] at hus
    simp (maxDischargeDepth := 30) only [aft_mk, hxs, f0, f1, f5, f6, w1, amL, args0, Nat.reduceEqDiff, reduceCtorEq, ↓reduceIte, Nat.reduceAdd, resultsA, results1, Int.reduceNeg, splice, Nat.reduceLeDiff, part, fillA, fillE, Nat.reduceLT]
    refine ⟨_, ?_, j + 1, t, by omega, rfl, ?_, ?_, ?_, ?_, hg2, hMb2, htl, by rw [hus, hn]; exact htt, ?_, by rw [hus, hn]; omega⟩
    ·omega
    ·simp (maxDischargeDepth := 30) only [f0, amL, args0, Nat.reduceEqDiff, reduceCtorEq, ↓reduceIte, Nat.reduceAdd, resultsA, results1, Int.reduceNeg, splice, Nat.reduceLeDiff, part, fillA, fillE, Nat.reduceLT]
    ·simp (maxDischargeDepth := 30) only [f1, amL, args0, Nat.reduceEqDiff, reduceCtorEq, ↓reduceIte, Nat.reduceAdd, resultsA, results1, Int.reduceNeg, splice, Nat.reduceLeDiff, part, fillA, fillE, Nat.reduceLT]
    ·simp (maxDischargeDepth := 30) only [f5, amL, args0, Nat.reduceEqDiff, reduceCtorEq, ↓reduceIte, Nat.reduceAdd, resultsA, results1, Int.reduceNeg, splice, Nat.reduceLeDiff, part, fillA, fillE, Nat.reduceLT]; rw [hus, hn]
    ·simp (maxDischargeDepth := 30) only [amL, args0, Nat.reduceEqDiff, reduceCtorEq, ↓reduceIte, Nat.reduceAdd, resultsA, results1, Int.reduceNeg, splice, Nat.reduceLeDiff, part, fillA, fillE, Nat.reduceLT]
    ·have := congrArg (List.drop 1) htd
     simpa [List.drop_drop] using this
  ·have hjj : j = l.length := by omega
   subst hjj
   rw [List.take_length] at hn htt
   have hbl := (List.getElem?_eq_some_iff.1 hMb).1
   have sv1 : sliceV (.slice b 0 l.length cap ex 3) (some (.int .i64 n)) none none = some (.slice b n (l.length - n) (cap - n) ex 3) := by
    have e1 : n ≤ l.length := by omega
    simp [sliceV, bound, e1]
   have sv2 : sliceV (.slice b 0 l.length cap ex 3) none (some (.int .i64 n)) none = some (.slice b 0 n cap ex 3) := by
    have e1 : n ≤ cap := by omega
    simp [sliceV, bound, e1]
   have cl : clearV M [.int .u8 0, .int .u64 0, .int .u64 0] (.slice b n (l.length - n) (cap - n) ex 3) = some (undef, M.set b (.cells true (over (encs t) n (List.replicate (l.length - n) [.int .u8 0, .int .u64 0, .int .u64 0])))) := by
    have e1 : n + (l.length - n) ≤ l.length := by omega
    simp [clearV, hMb, htl, e1]
   simp (maxDischargeDepth := 30) only [h, f0, f1, f5, f6, Option.map_none, sv1, sv2, cl, zOk, amL, args0, Nat.reduceEqDiff, reduceCtorEq, ↓reduceIte, Nat.reduceAdd, resultsA, results1, Int.reduceNeg, splice, Nat.reduceLeDiff, part, fillA, fillE, Nat.reduceLT]
   refine ⟨_, _, rfl, hg.set (by omega) _, .inr ⟨b, cap, ex, _, h1, by rw [hn], List.getElem?_set_self hbl, ?_⟩⟩
   rw [hn]
   unfold over
   rw [List.take_append_of_le_length (by simp; omega), List.take_take, Nat.min_self, ← List.map_take, htt]
 ·refine ⟨i + 1, l, by omega, rfl, by simp (maxDischargeDepth := 30) only [amL, args0, Nat.reduceEqDiff, reduceCtorEq, ↓reduceIte, Nat.reduceAdd, resultsA, results1, Int.reduceNeg, splice, Nat.reduceLeDiff, part, fillA, fillE, Nat.reduceLT], by simp (maxDischargeDepth := 30) only [amL, args0, Nat.reduceEqDiff, reduceCtorEq, ↓reduceIte, Nat.reduceAdd, resultsA, results1, Int.reduceNeg, splice, Nat.reduceLeDiff, part, fillA, fillE, Nat.reduceLT], ?_, by simp (maxDischargeDepth := 30) only [amL, args0, Nat.reduceEqDiff, reduceCtorEq, ↓reduceIte, Nat.reduceAdd, resultsA, results1, Int.reduceNeg, splice, Nat.reduceLeDiff, part, fillA, fillE, Nat.reduceLT], hg0.trans hg1, h3, rfl, ?_, rfl, ?_⟩
  all_goals have hus := used_snoc hs
  all_goals rw [if_neg hst, List.append_nil, hu] at hus
  all_goals rw [hus]
  ·simp (maxDischargeDepth := 30) only [amL, args0, Nat.reduceEqDiff, reduceCtorEq, ↓reduceIte, Nat.reduceAdd, resultsA, results1, Int.reduceNeg, splice, Nat.reduceLeDiff, part, fillA, fillE, Nat.reduceLT]; simp; omega
  ·simp [List.take_take]
  ·simp; omega
theorem lt_swo : Go.Sort.SWO ltKey where
 irrefl x := by unfold ltKey; simp
 trans x y z h1 h2 := by unfold ltKey at *; simp at *; omega
 ntrans x y z h1 h2 := by unfold ltKey at *; simp at *; omega
theorem srt_sorts (d : Array Slot) : Go.Sort.PermIn 0 d.size d (srtA d) ∧ Go.Sort.SortedIn ltKey 0 d.size (srtA d) := Go.Sort.pdq_sorts ltKey lt_swo d 0 d.size (Lib.bitLen d.size) true true (Nat.zero_le _) (Nat.le_refl _) (Or.inl rfl)
theorem srtL_len {d : List Slot} : (srtL d).length = d.length := by
 have := (srt_sorts d.toArray).1.1
 simpa [srtL] using this
theorem srtL_perm {d : List Slot} : (srtL d).Perm d := by
 have h := (srt_sorts d.toArray).1.2.2
 have hl := (srt_sorts d.toArray).1.1
 simp only [List.size_toArray] at h hl
 have e1 : ((srtA d.toArray).extract 0 d.length).toList = srtL d := by
  unfold srtL
  rw [← hl]
  simp
 have e2 : (d.toArray.extract 0 d.length).toList = d := by simp
 rwa [e1, e2] at h
theorem sort_spec {m0 M : Mem} {B : Nat} {u : V} {d : List Slot} (h : Pre B M u d) (hd : d.length < 2 ^ 60) (hg0 : Grow m0 M) (hB : m0.length ≤ B) : C S n_slices_SortFunc_EphSlot [u, .fn n_ephem_All_2 [] []] M (fun r m' => r = .tup [] ∧ Grow m0 m' ∧ Pre B m' u (srtL d)) := by
 rcases h with ⟨rfl, rfl⟩ | ⟨b, cap, ex, els, h1, rfl, h3, h4⟩
 ·have : srtL [] = [] := List.length_eq_zero_iff.1 (by rw [srtL_len]; rfl)
  exact ⟨1, _, _, rfl, rfl, hg0, .inl ⟨rfl, this⟩⟩
 ·have hbl := (List.getElem?_eq_some_iff.1 h3).1
  refine ⟨1, _, _, tSort_eq (cap := cap) (ex := ex) h3 (by omega) h4, rfl, hg0.set (by omega) _, .inr ⟨b, cap, ex, _, h1, by rw [srtL_len], List.getElem?_set_self hbl, ?_⟩⟩
  rw [srtL_len, List.take_append_of_le_length (by simp [srtL_len])]
  rw [List.take_of_length_le (by simp [srtL_len])]
def blkOf : V → Option Nat
 | .slice b _ _ _ _ _ => some b
 | _ => none
def Psh (B : Nat) (M : Mem) (u : V) (els : List (List V)) : Prop := (u = .nils ∧ els = []) ∨ ∃ b, B ≤ b ∧ u = .slice b 0 els.length els.length false 1 ∧ M[b]? = some (.cells true els)
theorem Psh.sl {B : Nat} {M : Mem} {u : V} {els : List (List V)} (h : Psh B M u els) : Sl M u 1 els := by
 rcases h with ⟨rfl, rfl⟩ | ⟨b, _, rfl, h⟩
 ·exact ⟨rfl, rfl⟩
 ·exact Sl.mk h
theorem Psh.keep {B : Nat} {M M' : Mem} {u : V} {els : List (List V)} (h : Psh B M u els) (hk : ∀ c y, blkOf u = some c → M[c]? = some y → M'[c]? = some y) : Psh B M' u els := by
 rcases h with h | ⟨b, h1, rfl, h3⟩
 ·exact .inl h
 ·exact .inr ⟨b, h1, rfl, hk b _ rfl h3⟩
theorem Psh.blk {B : Nat} {M : Mem} {u : V} {els : List (List V)} (h : Psh B M u els) {c : Nat} (hc : blkOf u = some c) : B ≤ c ∧ c < M.length := by
 rcases h with ⟨rfl, _⟩ | ⟨b, h1, rfl, h3⟩
 ·cases hc
 ·cases hc
  exact ⟨h1, (List.getElem?_eq_some_iff.1 h3).1⟩
theorem push {B : Nat} {M : Mem} {u x z : V} {T bytes : Nat} {own : Bool} {els : List (List V)} (h : Psh B M u els) (hT : M[T]? = some (.cells own [[x]])) (hr : roomy (els.length + 1) bytes = true) (hB : B ≤ M.length) (hTu : blkOf u ≠ some T) :
  ∃ u' M', appendV M [z] bytes u (.slice T 0 1 1 true 1) = some (u', M') ∧ Psh B M' u' (els ++ [[x]]) ∧ (∀ c y, blkOf u ≠ some c → M[c]? = some y → M'[c]? = some y) ∧ blkOf u' = some M.length ∧ M'.length = M.length + 1 := by
 have he : elems M (.slice T 0 1 1 true 1) = some [[x]] := by simp [elems, hT]
 rcases h with ⟨rfl, rfl⟩ | ⟨b, h1, rfl, h3⟩
 ·refine ⟨.slice M.length 0 1 1 false 1, M ++ [.cells true [[x]]], ?_, .inr ⟨M.length, hB, rfl, by simp⟩, fun c y _ hy => getElem?_grow hy, rfl, by simp⟩
  have hr' : roomy 1 bytes = true := hr
  simp [appendV, elemsY_of he, zOk, hr']
 ·have hbl := (List.getElem?_eq_some_iff.1 h3).1
  refine ⟨.slice M.length 0 (els.length + 1) (els.length + 1) false 1, M.set b .dead ++ [.cells true (els ++ [[x]])], ?_, .inr ⟨M.length, hB, by simp, ?_⟩, fun c y hc hy => ?_, rfl, by simp⟩
  ·simp [appendV, elemsY_of he, zOk, h3, hr]
  ·rw [List.getElem?_append_right (by simp)]; simp
  ·refine getElem?_grow ?_
   rw [List.getElem?_set_ne (fun e => hc (by rw [e]; rfl))]
   exact hy
theorem Grow.keep {m0 M M' : Mem} (hg : Grow m0 M) (h : ∀ (c : Nat) y, c < m0.length → M[c]? = some y → M'[c]? = some y) : Grow m0 M' := by
 refine ⟨M'.drop m0.length, ?_⟩
 have : M'.take m0.length = m0 := by
  apply List.ext_getElem?
  intro i
  by_cases hi : i < m0.length
  ·rw [List.getElem?_take, if_pos hi]
   have h0 := List.getElem?_eq_getElem hi
   rw [h0]
   exact h i _ hi (hg.get h0)
  ·rw [List.getElem?_eq_none (by simp; omega), List.getElem?_eq_none (by omega)]
 conv => lhs; rw [← List.take_append_drop m0.length M', this]
def allL (l : List Slot) : List Int × List Int × Int := if validB l = true then ((srtL (used l)).map (·.key), (srtL (used l)).map (·.val), 0) else ([], [], 2)
abbrev ints (keys : List Int) : List (List V) := keys.map fun k => [.int .u64 k]
theorem used_len {l : List Slot} : (used l).length ≤ l.length := List.length_filter_le _ _
theorem All_spec {m : Mem} {v : V} {l : List Slot} (hv : Sl m v 3 (encs l)) (hl : l.length < 5864062014806) : C S n_ephem_All [.agg [v]] m (fun r m' => ∃ kv vv, r = .tup [kv, vv, .int .i64 (allL l).2.2] ∧ Grow m m' ∧ Sl m' kv 1 (ints (allL l).1) ∧ Sl m' vv 1 (ints (allL l).2.1)) := by
 refine C_body rfl rfl rfl ?_
 unfold ephem_All
 have hcell := hv.cell
 simp (maxDischargeDepth := 30) only [hcell, amL, args0, Nat.reduceEqDiff, reduceCtorEq, ↓reduceIte, Nat.reduceAdd, resultsA, results1, Int.reduceNeg, splice, Nat.reduceLeDiff, part, fillA, fillE, Nat.reduceLT]
 refine (Check_spec hv.app (by omega)).mono ?_
 rintro _ _ ⟨rfl, g, rfl⟩
 by_cases hval : validB l = true
 ·have c0 : ¬ ¬ (0 : Int) = 0 := by omega
  have h64 := valid_len hval
  simp (maxDischargeDepth := 30) only [aft_mk, hval, hcell, c0, amL, args0, Nat.reduceEqDiff, reduceCtorEq, ↓reduceIte, Nat.reduceAdd, resultsA, results1, Int.reduceNeg, splice, Nat.reduceLeDiff, part, fillA, fillE, Nat.reduceLT]
  refine (Clone_spec' hv.app.app hl).mono ?_
  rintro u m2 ⟨hg2, hu, huc⟩
  simp (maxDischargeDepth := 30) only [aft_mk, amL, args0, Nat.reduceEqDiff, reduceCtorEq, ↓reduceIte, Nat.reduceAdd, resultsA, results1, Int.reduceNeg, splice, Nat.reduceLeDiff, part, fillA, fillE, Nat.reduceLT]
  have hgm : Grow m (m ++ [Blk.cells true [[v]]] ++ g) := (Grow.refl _).app.app
  refine (DeleteFunc_spec (m0 := m) hgm.len (hgm.trans hg2) hu huc (by omega)).mono ?_
  rintro u2 m3 ⟨hg3, hu2⟩
  have hul := used_len (l := l)
  simp (maxDischargeDepth := 30) only [aft_mk, amL, args0, Nat.reduceEqDiff, reduceCtorEq, ↓reduceIte, Nat.reduceAdd, resultsA, results1, Int.reduceNeg, splice, Nat.reduceLeDiff, part, fillA, fillE, Nat.reduceLT]
  refine (sort_spec hu2 (by omega) hg3 hgm.len).mono ?_
  rintro _ m4 ⟨rfl, hg4, hu4⟩
  generalize hd : srtL (used l) = d at hu4
  have hdl : d.length ≤ 64 := by rw [← hd, srtL_len]; omega
  have hsl := hu4.sl
  have hlen : (encs d).length = d.length := by simp
  simp (maxDischargeDepth := 30) only [aft_mk, hsl.len, hlen, amL, args0, Nat.reduceEqDiff, reduceCtorEq, ↓reduceIte, Nat.reduceAdd, resultsA, results1, Int.reduceNeg, splice, Nat.reduceLeDiff, part, fillA, fillE, Nat.reduceLT]
  have e1 : (allL l).1 = d.map (·.key) := by simp [allL, hval, hd]
  have e2 : (allL l).2.1 = d.map (·.val) := by simp [allL, hval, hd]
  have e3 : (allL l).2.2 = 0 := by simp [allL, hval]
  rw [e1, e2, e3]
  let I := fun (n : Nat) (fr : Frame) (M : Mem) => ∃ (i : Nat) (ku vu : V), i ≤ d.length ∧ n = d.length - i ∧ fr 7 = ku ∧ fr 8 = vu ∧ fr 22 = u2 ∧ fr 23 = .int .i64 d.length ∧ fr 24 = .int .i64 i ∧ Grow m M ∧ Sl M u2 3 (encs d) ∧ m4.length ≤ M.length ∧ (∀ c y, c < m4.length → m4[c]? = some y → M[c]? = some y) ∧ Psh m4.length M ku (ints ((d.map (·.key)).take i)) ∧ Psh m4.length M vu (ints ((d.map (·.val)).take i)) ∧ (∀ c, blkOf ku = some c → blkOf vu ≠ some c)
  refine W_loop I ?_ d.length ?_
  ·rintro n fr M ⟨i, ku, vu, hi, rfl, f7, f8, f22, f23, f24, hg, hM, hml, hkeep, hku, hvu, hap⟩
   unfold ephem_All_l0
   simp (maxDischargeDepth := 30) only [f7, f8, f22, f23, f24, amL, args0, Nat.reduceEqDiff, reduceCtorEq, ↓reduceIte, Nat.reduceAdd, resultsA, results1, Int.reduceNeg, splice, Nat.reduceLeDiff, part, fillA, fillE, Nat.reduceLT]
   first | (refine O_split (by simp only [put_apply, Nat.reduceEqDiff, ↓reduceIte, reduceCtorEq]; rfl) (fun h => ?_) (fun h => ?_) <;> simp only [decide_eq_true_eq, decide_eq_false_iff_not, Decidable.not_not, Bool.and_eq_true, Bool.not_eq_true', Bool.not_eq_false'] at h) | (refine W_split (by simp only [get_t, put_apply, Nat.reduceEqDiff, ↓reduceIte, reduceCtorEq]; rfl) (fun h => ?_) (fun h => ?_) <;> simp only [decide_eq_true_eq, decide_eq_false_iff_not, Decidable.not_not, Bool.and_eq_true, Bool.not_eq_true', Bool.not_eq_false'] at h)
   ·have hil : i < d.length := by omega
    obtain ⟨s, hs⟩ : ∃ s, d[i]? = some s := ⟨_, List.getElem?_eq_getElem hil⟩
    have ix := hM.index (ki := .i64) (n := i) (by omega) (by omega)
    have ld := fun o k => hM.load (o := o) (k := k) (encs_get hs)
    simp only [Int.toNat_natCast, enc] at ix ld
    have w1 : IntKind.i64.wrap ((i : Int) + 1) = ((i + 1 : Nat) : Int) := by rw [wrap_i64] <;> omega
    simp (maxDischargeDepth := 30) only [h, f7, f8, f22, f23, f24, ix, ld, amL, args0, Nat.reduceEqDiff, reduceCtorEq, ↓reduceIte, Nat.reduceAdd, resultsA, results1, Int.reduceNeg, splice, Nat.reduceLeDiff, part, fillA, fillE, Nat.reduceLT]
    simp only [List.length_append, List.length_cons, List.length_nil, Nat.zero_add, List.replicate_succ, List.replicate_zero]
    have hkb := fun c => hku.blk (c := c)
    have hvb := fun c => hvu.blk (c := c)
    generalize hA : List.set (M ++ [Blk.cells true [[V.int .u8 s.st, V.int .u64 s.key, V.int .u64 s.val]]] ++ [Blk.dead, Blk.dead]) (M.length + 1) (Blk.cells true [[V.int .u64 s.key]]) = A
    have a0 : ∀ (c : Nat) y, M[c]? = some y → A[c]? = some y := by
     intro c y hy
     have := (List.getElem?_eq_some_iff.1 hy).1
     rw [← hA, List.getElem?_set_ne (by omega)]
     exact getElem?_grow (getElem?_grow hy)
    have a1 : A[M.length]? = some (Blk.cells true [[V.int .u8 s.st, V.int .u64 s.key, V.int .u64 s.val]]) := by
     rw [← hA, List.getElem?_set_ne (by omega)]
     exact getElem?_grow (by simp)
    have a2 : A[M.length + 1]? = some (Blk.cells true [[V.int .u64 s.key]]) := by
     rw [← hA, List.getElem?_set_self (by simp)]
    have a3 : A[M.length + 2]? = some .dead := by
     rw [← hA, List.getElem?_set_ne (by omega), List.getElem?_append_right (by simp)]
     simp
    have a4 : A.length = M.length + 3 := by rw [← hA]; simp
    have a5 : (M ++ [Blk.cells true [[V.int .u8 s.st, V.int .u64 s.key, V.int .u64 s.val]]] ++ [Blk.dead, Blk.dead])[M.length + 1]? = some .dead := by
     rw [List.getElem?_append_right (by simp)]
     simp
    have hkl : (ints ((d.map (·.key)).take i)).length ≤ 64 := by simp; omega
    have hvl : (ints ((d.map (·.val)).take i)).length ≤ 64 := by simp; omega
    have rm : ∀ n, n ≤ 64 → roomy (n + 1) 8 = true := by intro n hn; simp [roomy]; omega
    obtain ⟨ku', M', p1, p2, p3, p4, p5⟩ := push (z := .int .u64 0) (bytes := 8) (hku.keep (M' := A) fun c y _ hy => a0 c y hy) a2 (rm _ hkl) (by omega) (fun e => by have := (hkb _ e).2; omega)
    have kne : ∀ c, M.length ≤ c → blkOf ku ≠ some c := fun c hc e => by have := (hkb _ e).2; omega
    have vne : ∀ c, M.length ≤ c → blkOf vu ≠ some c := fun c hc e => by have := (hvb _ e).2; omega
    have b1 := p3 _ _ (kne _ (Nat.le_refl _)) a1
    have b3 := p3 _ _ (kne (M.length + 2) (by omega)) a3
    have ldb : loadV M' none (.ptr M.length 0 2) = some (.int .u64 s.val) := by simp [loadV, b1, part]
    generalize hB : List.set M' (M.length + 2) (Blk.cells true [[V.int .u64 s.val]]) = B
    have c0 : ∀ (c : Nat) y, c ≠ M.length + 2 → M'[c]? = some y → B[c]? = some y := by
     intro c y hc hy
     rw [← hB, List.getElem?_set_ne (Ne.symm hc)]
     exact hy
    have c2 : B[M.length + 2]? = some (Blk.cells true [[V.int .u64 s.val]]) := by
     rw [← hB, List.getElem?_set_self (by omega)]
    have c4 : B.length = M.length + 4 := by rw [← hB]; simp; omega
    have hvu' : Psh m4.length B vu (ints ((d.map (·.val)).take i)) := hvu.keep fun c y hc hy => by
     have := (hvb _ hc).2
     exact c0 c y (by omega) (p3 c y (fun e => hap c e hc) (a0 c y hy))
    obtain ⟨vu', M'', q1, q2, q3, q4, q5⟩ := push (z := .int .u64 0) (bytes := 8) hvu' c2 (rm _ hvl) (by omega) (vne _ (by omega))
    have hku'' : Psh m4.length M'' ku' (ints ((d.map (·.key)).take i) ++ [[.int .u64 s.key]]) := p2.keep fun c y hc hy => by
     rw [p4] at hc
     cases hc
     exact q3 _ y (vne _ (by omega)) (c0 _ y (by omega) hy)
    have hold : ∀ (c : Nat) y, c < m4.length → m4[c]? = some y → M''[c]? = some y := fun c y hc hy => by
     have e1 : blkOf ku ≠ some c := fun e => by have := (hkb _ e).1; omega
     have e2 : blkOf vu ≠ some c := fun e => by have := (hvb _ e).1; omega
     exact q3 c y e2 (c0 c y (by omega) (p3 c y e1 (a0 c y (hkeep c y hc hy))))
    have hgM : Grow m M'' := Grow.keep hg4 fun c y hc hy => hold c y (Nat.lt_of_lt_of_le hc hg4.len) hy
    have hMM : Sl M'' u2 3 (encs d) := by
     rcases hu4 with ⟨rfl, he⟩ | ⟨b, cap, ex, els, h1, rfl, h3, h4⟩
     ·rw [he]; exact ⟨rfl, rfl⟩
     ·have hbl := (List.getElem?_eq_some_iff.1 h3).1
      exact Pre.sl (B := 0) (.inr ⟨b, cap, ex, els, Nat.zero_le _, rfl, hold b _ hbl h3, h4⟩)
    have tk : ∀ f : Slot → Int, ints ((d.map f).take (i + 1)) = ints ((d.map f).take i) ++ [[.int .u64 (f s)]] := fun f => by
     have : (d.map f)[i]? = some (f s) := by simp [hs]
     obtain ⟨z1, z2⟩ := List.getElem?_eq_some_iff.1 this
     rw [List.take_succ_eq_append_getElem z1, z2]
     simp
    refine ⟨a5, ku', M', p1, ⟨_, ldb, beq_int⟩, b3, ?_⟩
    rw [hB]
    refine ⟨vu', M'', q1, d.length - (i + 1), by omega, i + 1, ku', vu', by omega, rfl, ?_, ?_, ?_, ?_, ?_, hgM, hMM, by omega, hold, ?_, ?_, ?_⟩
    ·simp (maxDischargeDepth := 30) only [amL, args0, Nat.reduceEqDiff, reduceCtorEq, ↓reduceIte, Nat.reduceAdd, resultsA, results1, Int.reduceNeg, splice, Nat.reduceLeDiff, part, fillA, fillE, Nat.reduceLT]
    ·simp (maxDischargeDepth := 30) only [amL, args0, Nat.reduceEqDiff, reduceCtorEq, ↓reduceIte, Nat.reduceAdd, resultsA, results1, Int.reduceNeg, splice, Nat.reduceLeDiff, part, fillA, fillE, Nat.reduceLT]
    ·simp (maxDischargeDepth := 30) only [f22, amL, args0, Nat.reduceEqDiff, reduceCtorEq, ↓reduceIte, Nat.reduceAdd, resultsA, results1, Int.reduceNeg, splice, Nat.reduceLeDiff, part, fillA, fillE, Nat.reduceLT]
    ·simp (maxDischargeDepth := 30) only [f23, amL, args0, Nat.reduceEqDiff, reduceCtorEq, ↓reduceIte, Nat.reduceAdd, resultsA, results1, Int.reduceNeg, splice, Nat.reduceLeDiff, part, fillA, fillE, Nat.reduceLT]
    ·simp (maxDischargeDepth := 30) only [w1, amL, args0, Nat.reduceEqDiff, reduceCtorEq, ↓reduceIte, Nat.reduceAdd, resultsA, results1, Int.reduceNeg, splice, Nat.reduceLeDiff, part, fillA, fillE, Nat.reduceLT]
    ·rw [tk]; exact hku''
    ·rw [tk]; exact q2
    ·intro c hc
     rw [p4] at hc
     rw [q4]
     intro e
     simp only [Option.some.injEq] at hc e
     omega
   ·have : i = d.length := by omega
    subst this
    simp (maxDischargeDepth := 30) only [h, f7, f8, f22, f23, f24, amL, args0, Nat.reduceEqDiff, reduceCtorEq, ↓reduceIte, Nat.reduceAdd, resultsA, results1, Int.reduceNeg, splice, Nat.reduceLeDiff, part, fillA, fillE, Nat.reduceLT]
    rw [List.take_of_length_le (by simp)] at hku hvu
    exact ⟨_, _, rfl, hg, hku.sl, hvu.sl⟩
  ·refine ⟨0, .nils, .nils, by omega, rfl, by simp (maxDischargeDepth := 30) only [amL, args0, Nat.reduceEqDiff, reduceCtorEq, ↓reduceIte, Nat.reduceAdd, resultsA, results1, Int.reduceNeg, splice, Nat.reduceLeDiff, part, fillA, fillE, Nat.reduceLT], by simp (maxDischargeDepth := 30) only [amL, args0, Nat.reduceEqDiff, reduceCtorEq, ↓reduceIte, Nat.reduceAdd, resultsA, results1, Int.reduceNeg, splice, Nat.reduceLeDiff, part, fillA, fillE, Nat.reduceLT], by simp (maxDischargeDepth := 30) only [amL, args0, Nat.reduceEqDiff, reduceCtorEq, ↓reduceIte, Nat.reduceAdd, resultsA, results1, Int.reduceNeg, splice, Nat.reduceLeDiff, part, fillA, fillE, Nat.reduceLT], by simp (maxDischargeDepth := 30) only [amL, args0, Nat.reduceEqDiff, reduceCtorEq, ↓reduceIte, Nat.reduceAdd, resultsA, results1, Int.reduceNeg, splice, Nat.reduceLeDiff, part, fillA, fillE, Nat.reduceLT], by simp (maxDischargeDepth := 30) only [amL, args0, Nat.reduceEqDiff, reduceCtorEq, ↓reduceIte, Nat.reduceAdd, resultsA, results1, Int.reduceNeg, splice, Nat.reduceLeDiff, part, fillA, fillE, Nat.reduceLT]; rfl, hg4, hsl, Nat.le_refl _, fun _ _ _ h => h, .inl ⟨rfl, rfl⟩, .inl ⟨rfl, rfl⟩, fun c hc => by cases hc⟩
 ·have c : ¬ (2 : Int) = 0 := by omega
  simp (maxDischargeDepth := 30) only [aft_mk, hval, hcell, allL, c, amL, args0, Nat.reduceEqDiff, reduceCtorEq, ↓reduceIte, Nat.reduceAdd, resultsA, results1, Int.reduceNeg, splice, Nat.reduceLeDiff, part, fillA, fillE, Nat.reduceLT]
  exact ⟨_, _, rfl, (Grow.refl _).app.app, ⟨rfl, rfl⟩, ⟨rfl, rfl⟩⟩
end Go.AM.G.E
set_option maxRecDepth 100000
namespace Go.AM.G.E
open Go Go.AM Go.AM.G
theorem findF_spec {l : List Slot} {key : Int} : ∀ {f i : Nat} {g : Option Nat}, 0 < l.length → i < l.length → (∀ y, g = some y → y < l.length) → (findF l key f i g).1 < l.length ∧ ((findF l key f i g).2 = true → ∃ s : Slot, l[(findF l key f i g).1]? = some s ∧ s.st = 1 ∧ s.key = key)
 | 0, i, g, h0, hi, hg => ⟨hi, by simp [findF]⟩
 | f + 1, i, g, h0, hi, hg => by
  obtain ⟨s, hs⟩ : ∃ s, l[i]? = some s := ⟨_, List.getElem?_eq_getElem hi⟩
  simp only [findF, hs]
  split
  ·refine ⟨?_, by simp⟩
   cases g with
   | none => exact hi
   | some y => exact hg y rfl
  ·split
   ·rename_i h
    exact ⟨hi, fun _ => ⟨s, hs, h.1, h.2⟩⟩
   ·refine findF_spec h0 (Nat.mod_lt _ h0) ?_
    intro y hy
    split at hy
    ·cases hy; exact hi
    ·exact hg y hy
theorem findL_spec {l : List Slot} {key : Int} (hp : Pow l.length) : (findL l key).1 < l.length ∧ ((findL l key).2 = true → ∃ s : Slot, l[(findL l key).1]? = some s ∧ s.st = 1 ∧ s.key = key) := by
 have := hp.le
 obtain ⟨h0, h1⟩ := home_range (key := key) hp
 unfold findL
 rw [if_neg (by omega)]
 exact findF_spec (by omega) (by omega) (by simp)
theorem Clone_spec {m : Mem} {v : V} {l : List Slot} (hv : Sl m v 3 (encs l)) (hl : l.length < 5864062014806) : C S n_slices_Clone_EphSlot [v] m (fun r m' => Grow m m' ∧ Fresh m.length m' r 3 (encs l)) := by
 refine C_body rfl rfl rfl ?_
 unfold slices_Clone_EphSlot
 have hlen : (encs l).length = l.length := by simp
 rcases hv.cases with ⟨rfl, he⟩ | ⟨b, i, len, cap, ex, rfl⟩
 ·simp (maxDischargeDepth := 30) only [amL, args0, Nat.reduceEqDiff, reduceCtorEq, ↓reduceIte, Nat.reduceAdd, resultsA, results1, Int.reduceNeg, splice, Nat.reduceLeDiff, part, fillA, fillE, Nat.reduceLT]
  exact ⟨Grow.refl _, Fresh.mk (.inl ⟨rfl, he⟩)⟩
 ·simp (maxDischargeDepth := 30) only [amL, args0, Nat.reduceEqDiff, reduceCtorEq, ↓reduceIte, Nat.reduceAdd, resultsA, results1, Int.reduceNeg, splice, Nat.reduceLeDiff, part, fillA, fillE, Nat.reduceLT]
  obtain ⟨v', m', h1, h2, h3⟩ := append_new (zero := [V.int .u8 0, V.int .u64 0, V.int .u64 0]) (bytes := 24) hv rfl (by omega) (by omega)
  refine ⟨v', m', h1, ?_⟩
  exact ⟨h2, h3⟩
theorem Own_spec {m : Mem} {v : V} {l : List Slot} (hv : Sl m v 3 (encs l)) (hl : l.length < 5864062014806) : C S n_ephem_Own [.agg [v]] m (fun r m' => ∃ v', r = .agg [v'] ∧ Grow m m' ∧ Fresh m.length m' v' 3 (encs l)) := by
 refine C_body rfl rfl rfl ?_
 unfold ephem_Own
 have hcell := hv.cell
 simp (maxDischargeDepth := 30) only [hcell, amL, args0, Nat.reduceEqDiff, reduceCtorEq, ↓reduceIte, Nat.reduceAdd, resultsA, results1, Int.reduceNeg, splice, Nat.reduceLeDiff, part, fillA, fillE, Nat.reduceLT]
 refine (Clone_spec hv.app.app hl).mono ?_
 rintro v' m' ⟨⟨g, rfl⟩, hf⟩
 have hc' := hf.1.cell
 simp (maxDischargeDepth := 30) only [aft_mk, hc', amL, args0, Nat.reduceEqDiff, reduceCtorEq, ↓reduceIte, Nat.reduceAdd, resultsA, results1, Int.reduceNeg, splice, Nat.reduceLeDiff, part, fillA, fillE, Nat.reduceLT]
 exact ⟨v', rfl, (Grow.refl _).app.app.app, hf.swap.weaken (by simp)⟩
def layL (l : List Slot) (key val : Int) : List Slot := l.set (findL l key).1 ⟨1, key, val⟩
theorem lay_spec {m : Mem} {p : V} {b cap : Nat} {ex : Bool} {l : List Slot} (key val : Int) (hp : loadV m none p = some (.slice b 0 l.length cap ex 3)) (hpp : asPtr 0 p = some p) (hb : m[b]? = some (.cells true (encs l))) (hpow : Pow l.length) (hf : 0 < cnt 0 l) :
  C S n_ephem_table_lay [p, .int .u64 key, .int .u64 val] m (fun _ m' => Grow (m.set b (.cells true (encs (layL l key val)))) m') := by
 have hlen : (encs l).length = l.length := by simp
 have hv : Sl m (.slice b 0 l.length cap ex 3) 3 (encs l) := by rw [← hlen]; exact Sl.mk hb
 refine C_body rfl rfl rfl ?_
 unfold ephem_table_lay
 simp (maxDischargeDepth := 30) only [amL, args0, Nat.reduceEqDiff, reduceCtorEq, ↓reduceIte, Nat.reduceAdd, resultsA, results1, Int.reduceNeg, splice, Nat.reduceLeDiff, part, fillA, fillE, Nat.reduceLT]
 refine (find_spec key hp hpp hv (.inr ⟨hpow, hf⟩)).mono ?_
 rintro _ _ ⟨rfl, g, rfl⟩
 obtain ⟨hi, _⟩ := findL_spec (key := key) hpow
 obtain ⟨s, hs⟩ : ∃ s, l[(findL l key).1]? = some s := ⟨_, List.getElem?_eq_getElem hi⟩
 have ix := hv.index (ki := .i64) (n := (findL l key).1) (by omega) (by omega)
 have st := store_own (n := 3) (len := l.length) (cap := cap) (z := 3) (ex := ex) (x := .agg [.int .u8 1, .int .u64 key, .int .u64 val]) hb (encs_get hs) rfl rfl rfl
 have e : (encs l).set (findL l key).1 [.int .u8 1, .int .u64 key, .int .u64 val] = encs (layL l key val) := by simp [layL, List.map_set, enc]
 simp only [Int.toNat_natCast, cells_agg, e] at ix st
 simp (maxDischargeDepth := 30) only [aft_mk, hp, hpp, ix, st, amL, args0, Nat.reduceEqDiff, reduceCtorEq, ↓reduceIte, Nat.reduceAdd, resultsA, results1, Int.reduceNeg, splice, Nat.reduceLeDiff, part, fillA, fillE, Nat.reduceLT]
 exact (Grow.refl _).app
def sizeL (used : Nat) : Nat := if 2 * (used + 1) ≤ 8 then 8 else if 2 * (used + 1) ≤ 16 then 16 else if 2 * (used + 1) ≤ 32 then 32 else if 2 * (used + 1) ≤ 64 then 64 else 128
def zeroS : Slot := ⟨0, 0, 0⟩
def anewL (l : List Slot) : List Slot := l.foldl (fun t s => if s.st = 1 then layL t s.key s.val else t) (List.replicate (sizeL (cnt 1 l)) zeroS)
theorem layL_length {l : List Slot} {key val : Int} : (layL l key val).length = l.length := by simp [layL]
theorem cnt_set {l : List Slot} {i : Nat} {s : Slot} {st : Int} : cnt st l ≤ cnt st (l.set i s) + 1 := by
 induction l generalizing i with
 | nil => simp [cnt]
 | cons a l ih =>
  cases i with
  | zero => simp only [List.set_cons_zero, cnt, List.countP_cons]; split <;> split <;> omega
  | succ i =>
   have := ih (i := i)
   simp only [List.set_cons_succ, cnt, List.countP_cons] at this ⊢
   omega
theorem sizeL_cases (u : Nat) : (sizeL u = 8 ∧ 2 * (u + 1) ≤ 8) ∨ (sizeL u = 16 ∧ 8 < 2 * (u + 1) ∧ 2 * (u + 1) ≤ 16) ∨ (sizeL u = 32 ∧ 16 < 2 * (u + 1) ∧ 2 * (u + 1) ≤ 32) ∨ (sizeL u = 64 ∧ 32 < 2 * (u + 1) ∧ 2 * (u + 1) ≤ 64) ∨ (sizeL u = 128 ∧ 64 < 2 * (u + 1)) := by
 unfold sizeL
 split
 ·omega
 split
 ·omega
 split
 ·omega
 split <;> omega
theorem encs_z {l : List Slot} : ∀ el ∈ encs l, el.length = 3 := by
 intro el h
 obtain ⟨s, _, rfl⟩ := List.mem_map.1 h
 rfl
theorem anew_spec {m : Mem} {bt : Nat} {v : V} {l : List Slot} (hbt : m[bt]? = some (.cells true [[v]])) (hv : Sl m v 3 (encs l)) (hn : l.length ≤ 64) (hu63 : cnt 1 l ≤ 63) :
  C S n_ephem_table_anew [.ptr bt 0 0] m (fun r m' => r = .bool (decide (sizeL (cnt 1 l) ≤ 64)) ∧ if sizeL (cnt 1 l) ≤ 64 then ∃ b cap ex, m.length ≤ b ∧ Grow (m.set bt (.cells true [[.slice b 0 (anewL l).length cap ex 3]])) m' ∧ m'[b]? = some (.cells true (encs (anewL l))) else Grow m m') := by
 have hlen : (encs l).length = l.length := by simp
 have hbl := (List.getElem?_eq_some_iff.1 hbt).1
 have hp0 : loadV m none (.ptr bt 0 0) = some v := by simp [loadV, hbt, part]
 refine C_body rfl rfl rfl ?_
 unfold ephem_table_anew
 simp (maxDischargeDepth := 30) only [amL, args0, Nat.reduceEqDiff, reduceCtorEq, ↓reduceIte, Nat.reduceAdd, resultsA, results1, Int.reduceNeg, splice, Nat.reduceLeDiff, part, fillA, fillE, Nat.reduceLT]
 refine (many_spec 1 hp0 rfl hv (by omega)).mono ?_
 rintro _ _ ⟨rfl, g, rfl⟩
 have hcl := cnt_le 1 l
 have hsc := sizeL_cases (cnt 1 l)
 generalize hu : cnt 1 l = used at *
 have w1 : IntKind.i64.wrap ((used : Int) + 1) = ((used + 1 : Nat) : Int) := by rw [wrap_i64] <;> omega
 simp (maxDischargeDepth := 30) only [aft_mk, w1, amL, args0, Nat.reduceEqDiff, reduceCtorEq, ↓reduceIte, Nat.reduceAdd, resultsA, results1, Int.reduceNeg, splice, Nat.reduceLeDiff, part, fillA, fillE, Nat.reduceLT]
 have w2 : IntKind.i64.wrap (2 * ((used + 1 : Nat) : Int)) = ((2 * (used + 1) : Nat) : Int) := by rw [wrap_i64] <;> omega
 let I := fun (n : Nat) (fr : Frame) (M : Mem) => ∃ s : Nat, (s = 8 ∨ s = 16 ∨ s = 32 ∨ s = 64 ∨ s = 128) ∧ n = 128 - s ∧ s ≤ sizeL used ∧ fr 0 = .ptr bt 0 0 ∧ fr 3 = .int .i64 s ∧ fr 4 = .int .i64 (used + 1 : Nat) ∧ M = m ++ g
 refine W_loop I ?_ 120 ?_
 ·rintro n fr M ⟨s, hs, rfl, hsz, f0, f3, f4, rfl⟩
  unfold ephem_table_anew_l0
  simp (maxDischargeDepth := 30) only [f0, f3, f4, w2, amL, args0, Nat.reduceEqDiff, reduceCtorEq, ↓reduceIte, Nat.reduceAdd, resultsA, results1, Int.reduceNeg, splice, Nat.reduceLeDiff, part, fillA, fillE, Nat.reduceLT]
  first | (refine O_split (by simp only [put_apply, Nat.reduceEqDiff, ↓reduceIte, reduceCtorEq]; rfl) (fun h => ?_) (fun h => ?_) <;> simp only [decide_eq_true_eq, decide_eq_false_iff_not, Decidable.not_not, Bool.and_eq_true, Bool.not_eq_true', Bool.not_eq_false'] at h) | (refine W_split (by simp only [get_t, put_apply, Nat.reduceEqDiff, ↓reduceIte, reduceCtorEq]; rfl) (fun h => ?_) (fun h => ?_) <;> simp only [decide_eq_true_eq, decide_eq_false_iff_not, Decidable.not_not, Bool.and_eq_true, Bool.not_eq_true', Bool.not_eq_false'] at h)
  ·have w3 : IntKind.i64.wrap ((s : Int) * 2) = ((s * 2 : Nat) : Int) := by rw [wrap_i64] <;> omega
   simp (maxDischargeDepth := 30) only [h, f0, f3, f4, w2, w3, amL, args0, Nat.reduceEqDiff, reduceCtorEq, ↓reduceIte, Nat.reduceAdd, resultsA, results1, Int.reduceNeg, splice, Nat.reduceLeDiff, part, fillA, fillE, Nat.reduceLT]
   refine ⟨128 - s * 2, ?_, s * 2, ?_, rfl, ?_, ?_, ?_, ?_, rfl⟩
   ·omega
   ·omega
   ·omega
   all_goals simp (maxDischargeDepth := 30) only [f0, f3, f4, amL, args0, Nat.reduceEqDiff, reduceCtorEq, ↓reduceIte, Nat.reduceAdd, resultsA, results1, Int.reduceNeg, splice, Nat.reduceLeDiff, part, fillA, fillE, Nat.reduceLT]
  ·have hss : sizeL used = s := by omega
   rw [hss]
   simp (maxDischargeDepth := 30) only [h, f0, f3, f4, w2, amL, args0, Nat.reduceEqDiff, reduceCtorEq, ↓reduceIte, Nat.reduceAdd, resultsA, results1, Int.reduceNeg, splice, Nat.reduceLeDiff, part, fillA, fillE, Nat.reduceLT]
   first | (refine O_split (by simp only [put_apply, Nat.reduceEqDiff, ↓reduceIte, reduceCtorEq]; rfl) (fun h2 => ?_) (fun h2 => ?_) <;> simp only [decide_eq_true_eq, decide_eq_false_iff_not, Decidable.not_not, Bool.and_eq_true, Bool.not_eq_true', Bool.not_eq_false'] at h2) | (refine W_split (by simp only [get_t, put_apply, Nat.reduceEqDiff, ↓reduceIte, reduceCtorEq]; rfl) (fun h2 => ?_) (fun h2 => ?_) <;> simp only [decide_eq_true_eq, decide_eq_false_iff_not, Decidable.not_not, Bool.and_eq_true, Bool.not_eq_true', Bool.not_eq_false'] at h2)
   ·have : ¬ s ≤ 64 := by omega
    simp (maxDischargeDepth := 30) only [this, amL, args0, Nat.reduceEqDiff, reduceCtorEq, ↓reduceIte, Nat.reduceAdd, resultsA, results1, Int.reduceNeg, splice, Nat.reduceLeDiff, part, fillA, fillE, Nat.reduceLT]
    exact (Grow.refl _).app
   have h64 : s ≤ 64 := by omega
   have hbt' : (m ++ g)[bt]? = some (.cells true [[v]]) := getElem?_grow hbt
   have hp1 : loadV (m ++ g) none (.ptr bt 0 0) = some v := loadV_some hp0
   have rm : 0 ≤ (s : Int) ∧ (s : Int) ≤ s ∧ roomy (s : Int).toNat 24 = true := by simp [roomy]; omega
   simp (maxDischargeDepth := 30) only [h, f0, f3, f4, hp0, hp1, rm, amL, args0, Nat.reduceEqDiff, reduceCtorEq, ↓reduceIte, Nat.reduceAdd, resultsA, results1, Int.reduceNeg, splice, Nat.reduceLeDiff, part, fillA, fillE, Nat.reduceLT]
   have st1 : ∀ x : V, x.isCell = true → storeV m 1 (.ptr bt 0 0) x = some (m.set bt (.cells true [[x]])) := fun x hx => by
    simp [storeV, hbt, cells_cell hx, hx, splice]
   have rm' : roomy s 24 = true := by simpa using rm.2.2
   have hll : (encs l).length = l.length := hlen
   simp (maxDischargeDepth := 30) only [st1, Int.toNat_natCast, rm', hv.len, hll, amL, args0, Nat.reduceEqDiff, reduceCtorEq, ↓reduceIte, Nat.reduceAdd, resultsA, results1, Int.reduceNeg, splice, Nat.reduceLeDiff, part, fillA, fillE, Nat.reduceLT]
   generalize hB : List.length (m ++ g) = B
   have hBm : m.length ≤ B := by rw [← hB]; simp
   have hm1 : (m.set bt (.cells true [[V.slice B 0 s s true 3]])).length = m.length := by simp
   have hvv : Sl (m.set bt (.cells true [[V.slice B 0 s s true 3]])) v 3 (encs l) := hv.set_other encs_z hbt (by simp) rfl
   have hbt1 : (m.set bt (.cells true [[V.slice B 0 s s true 3]]))[bt]? = some (.cells true [[V.slice B 0 s s true 3]]) := List.getElem?_set_self hbl
   generalize hM1 : m.set bt (.cells true [[V.slice B 0 s s true 3]]) = M1 at hm1 hvv hbt1
   have hzz : List.replicate s [V.int .u8 0, V.int .u64 0, V.int .u64 0] = encs (List.replicate s zeroS) := by simp [enc, zeroS]
   rw [hzz]
   have hfin : (anewL l) = l.foldl (fun t s => if s.st = 1 then layL t s.key s.val else t) (List.replicate s zeroS) := by simp [anewL, hu, hss]
   have hps : Pow s := by unfold Pow; omega
   let T := fun (i : Nat) => (l.take i).foldl (fun t s => if s.st = 1 then layL t s.key s.val else t) (List.replicate s zeroS)
   have hT0 : T 0 = List.replicate s zeroS := rfl
   have hTs : ∀ i x, l[i]? = some x → T (i + 1) = if x.st = 1 then layL (T i) x.key x.val else T i := by
    intro i x hx
    obtain ⟨a1, e1⟩ := List.getElem?_eq_some_iff.1 hx
    simp only [T]
    rw [List.take_succ_eq_append_getElem a1, e1, List.foldl_append]
    rfl
   have hTl : T l.length = anewL l := by simp only [T, hfin, List.take_length]
   have hTlen : ∀ i, i ≤ l.length → (T i).length = s ∧ s ≤ cnt 0 (T i) + cnt 1 (l.take i) := by
    intro i
    induction i with
    | zero => intro _; rw [hT0]; simp [cnt, zeroS, List.countP_replicate]
    | succ i ih =>
     intro hi
     obtain ⟨x, hx⟩ : ∃ x, l[i]? = some x := ⟨_, List.getElem?_eq_getElem (by omega)⟩
     obtain ⟨a, b⟩ := ih (by omega)
     rw [hTs i x hx, cnt_succ hx]
     split
     ·refine ⟨by rw [layL_length]; exact a, ?_⟩
      have := cnt_set (l := T i) (i := (findL (T i) x.key).1) (s := ⟨1, x.key, x.val⟩) (st := 0)
      unfold layL
      omega
     ·exact ⟨a, by omega⟩
   let J := fun (n : Nat) (fr : Frame) (M : Mem) => ∃ i : Nat, i ≤ l.length ∧ n = l.length - i ∧ fr 0 = .ptr bt 0 0 ∧ fr 30 = v ∧ fr 31 = .int .i64 l.length ∧ fr 32 = .int .i64 i ∧ Grow M1 M ∧ M[B]? = some (.cells true (encs (T i)))
   refine W_loop J ?_ l.length ?_
   ·rintro n fr M ⟨i, hi, rfl, f0, f30, f31, f32, hg, hMB⟩
    unfold ephem_table_anew_l1
    simp (maxDischargeDepth := 30) only [f0, f30, f31, f32, amL, args0, Nat.reduceEqDiff, reduceCtorEq, ↓reduceIte, Nat.reduceAdd, resultsA, results1, Int.reduceNeg, splice, Nat.reduceLeDiff, part, fillA, fillE, Nat.reduceLT]
    first | (refine O_split (by simp only [put_apply, Nat.reduceEqDiff, ↓reduceIte, reduceCtorEq]; rfl) (fun h => ?_) (fun h => ?_) <;> simp only [decide_eq_true_eq, decide_eq_false_iff_not, Decidable.not_not, Bool.and_eq_true, Bool.not_eq_true', Bool.not_eq_false'] at h) | (refine W_split (by simp only [get_t, put_apply, Nat.reduceEqDiff, ↓reduceIte, reduceCtorEq]; rfl) (fun h => ?_) (fun h => ?_) <;> simp only [decide_eq_true_eq, decide_eq_false_iff_not, Decidable.not_not, Bool.and_eq_true, Bool.not_eq_true', Bool.not_eq_false'] at h)
    ·have hil : i < l.length := by omega
     obtain ⟨x, hx⟩ : ∃ x, l[i]? = some x := ⟨_, List.getElem?_eq_getElem hil⟩
     have hsl := hvv.grow hg
     have ix := hsl.index (ki := .i64) (n := i) (by omega) (by omega)
     have ld := fun o k => hsl.load (o := o) (k := k) (encs_get hx)
     simp only [Int.toNat_natCast, enc] at ix ld
     have w3 : IntKind.i64.wrap ((i : Int) + 1) = ((i + 1 : Nat) : Int) := by rw [wrap_i64] <;> omega
     obtain ⟨tl, tc⟩ := hTlen i hi
     have hfree : 0 < cnt 0 (T i) := by
      have : cnt 1 (l.take i) ≤ cnt 1 l := List.Sublist.countP_le (List.take_sublist i l)
      omega
     by_cases c1 : x.st = 1
     ·simp (maxDischargeDepth := 30) only [h, f0, f30, f31, f32, ix, ld, c1, amL, args0, Nat.reduceEqDiff, reduceCtorEq, ↓reduceIte, Nat.reduceAdd, resultsA, results1, Int.reduceNeg, splice, Nat.reduceLeDiff, part, fillA, fillE, Nat.reduceLT]
      have hpl : loadV M none (.ptr bt 0 0) = some (.slice B 0 (T i).length s true 3) := by
       rw [tl]
       simp [loadV, hg.get hbt1, part]
      refine (lay_spec x.key x.val (loadV_some hpl) rfl (getElem?_grow hMB) (by rw [tl]; exact hps) hfree).mono ?_
      rintro _ M' ⟨g', rfl⟩
      have hBl : B < M.length := (List.getElem?_eq_some_iff.1 hMB).1
      simp (maxDischargeDepth := 30) only [aft_mk, f0, f30, f31, f32, w3, amL, args0, Nat.reduceEqDiff, reduceCtorEq, ↓reduceIte, Nat.reduceAdd, resultsA, results1, Int.reduceNeg, splice, Nat.reduceLeDiff, part, fillA, fillE, Nat.reduceLT]
      refine ⟨_, ?_, i + 1, by omega, rfl, ?_, ?_, ?_, ?_, ?_, ?_⟩
      ·omega
      ·simp (maxDischargeDepth := 30) only [f0, amL, args0, Nat.reduceEqDiff, reduceCtorEq, ↓reduceIte, Nat.reduceAdd, resultsA, results1, Int.reduceNeg, splice, Nat.reduceLeDiff, part, fillA, fillE, Nat.reduceLT]
      ·simp (maxDischargeDepth := 30) only [f30, amL, args0, Nat.reduceEqDiff, reduceCtorEq, ↓reduceIte, Nat.reduceAdd, resultsA, results1, Int.reduceNeg, splice, Nat.reduceLeDiff, part, fillA, fillE, Nat.reduceLT]
      ·simp (maxDischargeDepth := 30) only [f31, amL, args0, Nat.reduceEqDiff, reduceCtorEq, ↓reduceIte, Nat.reduceAdd, resultsA, results1, Int.reduceNeg, splice, Nat.reduceLeDiff, part, fillA, fillE, Nat.reduceLT]
      ·simp (maxDischargeDepth := 30) only [amL, args0, Nat.reduceEqDiff, reduceCtorEq, ↓reduceIte, Nat.reduceAdd, resultsA, results1, Int.reduceNeg, splice, Nat.reduceLeDiff, part, fillA, fillE, Nat.reduceLT]
      ·exact (hg.app.set (by omega) _).app
      ·rw [hTs i x hx, if_pos c1]
       refine getElem?_grow ?_
       rw [List.getElem?_set_self (by simp; omega)]
     ·simp (maxDischargeDepth := 30) only [h, f0, f30, f31, f32, ix, ld, c1, w3, amL, args0, Nat.reduceEqDiff, reduceCtorEq, ↓reduceIte, Nat.reduceAdd, resultsA, results1, Int.reduceNeg, splice, Nat.reduceLeDiff, part, fillA, fillE, Nat.reduceLT]
      refine ⟨_, ?_, i + 1, by omega, rfl, ?_, ?_, ?_, ?_, hg.app, ?_⟩
      ·omega
      ·simp (maxDischargeDepth := 30) only [f0, amL, args0, Nat.reduceEqDiff, reduceCtorEq, ↓reduceIte, Nat.reduceAdd, resultsA, results1, Int.reduceNeg, splice, Nat.reduceLeDiff, part, fillA, fillE, Nat.reduceLT]
      ·simp (maxDischargeDepth := 30) only [f30, amL, args0, Nat.reduceEqDiff, reduceCtorEq, ↓reduceIte, Nat.reduceAdd, resultsA, results1, Int.reduceNeg, splice, Nat.reduceLeDiff, part, fillA, fillE, Nat.reduceLT]
      ·simp (maxDischargeDepth := 30) only [f31, amL, args0, Nat.reduceEqDiff, reduceCtorEq, ↓reduceIte, Nat.reduceAdd, resultsA, results1, Int.reduceNeg, splice, Nat.reduceLeDiff, part, fillA, fillE, Nat.reduceLT]
      ·simp (maxDischargeDepth := 30) only [amL, args0, Nat.reduceEqDiff, reduceCtorEq, ↓reduceIte, Nat.reduceAdd, resultsA, results1, Int.reduceNeg, splice, Nat.reduceLeDiff, part, fillA, fillE, Nat.reduceLT]
      ·rw [hTs i x hx, if_neg c1]
       exact getElem?_grow hMB
    ·have : i = l.length := by omega
     subst this
     have h64' : ((s : Nat) ≤ 64) = True := by simp [h64]
     simp (maxDischargeDepth := 30) only [h, f0, f30, f31, f32, h64', amL, args0, Nat.reduceEqDiff, reduceCtorEq, ↓reduceIte, Nat.reduceAdd, resultsA, results1, Int.reduceNeg, splice, Nat.reduceLeDiff, part, fillA, fillE, Nat.reduceLT]
     refine ⟨B, s, true, hBm, ?_, ?_⟩
     ·rw [← hTl, (hTlen _ (Nat.le_refl _)).1, hM1]; exact hg
     ·rw [← hTl]; exact hMB
   ·refine ⟨0, by omega, rfl, by simp (maxDischargeDepth := 30) only [f0, amL, args0, Nat.reduceEqDiff, reduceCtorEq, ↓reduceIte, Nat.reduceAdd, resultsA, results1, Int.reduceNeg, splice, Nat.reduceLeDiff, part, fillA, fillE, Nat.reduceLT], by simp (maxDischargeDepth := 30) only [amL, args0, Nat.reduceEqDiff, reduceCtorEq, ↓reduceIte, Nat.reduceAdd, resultsA, results1, Int.reduceNeg, splice, Nat.reduceLeDiff, part, fillA, fillE, Nat.reduceLT], by simp (maxDischargeDepth := 30) only [amL, args0, Nat.reduceEqDiff, reduceCtorEq, ↓reduceIte, Nat.reduceAdd, resultsA, results1, Int.reduceNeg, splice, Nat.reduceLeDiff, part, fillA, fillE, Nat.reduceLT], by simp (maxDischargeDepth := 30) only [amL, args0, Nat.reduceEqDiff, reduceCtorEq, ↓reduceIte, Nat.reduceAdd, resultsA, results1, Int.reduceNeg, splice, Nat.reduceLeDiff, part, fillA, fillE, Nat.reduceLT]; rfl, (Grow.refl _).app.app, ?_⟩
    rw [hT0]
    have : (M1 ++ g).length = B := by rw [← hB]; simp [hm1]
    rw [← this]
    exact List.getElem?_concat_length
 ·refine ⟨8, by omega, by omega, ?_, by simp (maxDischargeDepth := 30) only [amL, args0, Nat.reduceEqDiff, reduceCtorEq, ↓reduceIte, Nat.reduceAdd, resultsA, results1, Int.reduceNeg, splice, Nat.reduceLeDiff, part, fillA, fillE, Nat.reduceLT], by simp (maxDischargeDepth := 30) only [amL, args0, Nat.reduceEqDiff, reduceCtorEq, ↓reduceIte, Nat.reduceAdd, resultsA, results1, Int.reduceNeg, splice, Nat.reduceLeDiff, part, fillA, fillE, Nat.reduceLT]; rfl, by simp (maxDischargeDepth := 30) only [amL, args0, Nat.reduceEqDiff, reduceCtorEq, ↓reduceIte, Nat.reduceAdd, resultsA, results1, Int.reduceNeg, splice, Nat.reduceLeDiff, part, fillA, fillE, Nat.reduceLT], rfl⟩
  omega
end Go.AM.G.E
set_option maxRecDepth 100000
namespace Go.AM.G.E
open Go Go.AM Go.AM.G
def needL (l : List Slot) (key : Int) : Bool := !(findL l key).2 && (decide (l.length = 0) || ((l[(findL l key).1]?).any (fun s => decide (s.st = 0)) && decide (4 * ((cnt 0 l : Int) - 1) < l.length)))
def putL (l : List Slot) (key val : Int) : List Slot × Int :=
 if validB l = true then
  if key = 0 then (l, 7) else
  if needL l key = true then (if sizeL (cnt 1 l) ≤ 64 then (layL (anewL l) key val, 0) else (l, 6)) else (layL l key val, 0)
 else ([], 2)
theorem cnt_add {l : List Slot} : cnt 0 l + cnt 1 l ≤ l.length := by
 induction l with
 | nil => simp [cnt]
 | cons a l ih =>
  simp only [cnt, List.countP_cons, List.length_cons, decide_eq_true_eq] at ih ⊢
  split <;> split <;> omega
theorem anewL_spec {l : List Slot} (h : sizeL (cnt 1 l) ≤ 64) : (anewL l).length = sizeL (cnt 1 l) ∧ Pow (anewL l).length ∧ 0 < cnt 0 (anewL l) := by
 have hsc := sizeL_cases (cnt 1 l)
 have key : ∀ (k : List Slot) (t : List Slot), (k.foldl (fun t s => if s.st = 1 then layL t s.key s.val else t) t).length = t.length ∧ cnt 0 t ≤ cnt 0 (k.foldl (fun t s => if s.st = 1 then layL t s.key s.val else t) t) + cnt 1 k := by
  intro k
  induction k with
  | nil => intro t; simp [cnt]
  | cons a k ih =>
   intro t
   simp only [List.foldl_cons]
   obtain ⟨h1, h2⟩ := ih (if a.st = 1 then layL t a.key a.val else t)
   rw [h1]
   have e : cnt 1 (a :: k) = cnt 1 k + (if a.st = 1 then 1 else 0) := by simp [cnt, List.countP_cons]
   rw [e]
   split
   ·rename_i hs
    rw [if_pos hs] at h2
    have := cnt_set (l := t) (i := (findL t a.key).1) (s := ⟨1, a.key, a.val⟩) (st := 0)
    refine ⟨layL_length, ?_⟩
    unfold layL at h2 ⊢
    omega
   ·rename_i hs
    rw [if_neg hs] at h2
    exact ⟨rfl, by omega⟩
 obtain ⟨h1, h2⟩ := key l (List.replicate (sizeL (cnt 1 l)) zeroS)
 have h3 : cnt 0 (List.replicate (sizeL (cnt 1 l)) zeroS) = sizeL (cnt 1 l) := by simp [cnt, zeroS, List.countP_replicate]
 rw [List.length_replicate] at h1
 rw [h3] at h2
 refine ⟨h1, ?_, ?_⟩
 ·have : (anewL l).length = sizeL (cnt 1 l) := h1
  rw [this]
  unfold Pow
  omega
 ·show 0 < cnt 0 (anewL l)
  unfold anewL
  omega
theorem put_tail {fr : Frame} {m M : Mem} {bt R b cap : Nat} {ex : Bool} {t : List Slot} {key val : Int} (f9 : fr 9 = .ptr bt 0 0) (f6 : fr 6 = .ptr R 0 0) (hbt : M[bt]? = some (.cells true [[.slice b 0 t.length cap ex 3]])) (hb : M[b]? = some (.cells true (encs t))) (hR : M[R]? = some (.cells true [[.nils]])) (hmR : m.length ≤ R) (hRb : R < b) (hg : Grow m M) (hpow : Pow t.length) (hf : 0 < cnt 0 t) (hbb : b ≠ bt) :
  C S n_ephem_table_lay [.ptr bt 0 0, .int .u64 key, .int .u64 val] M (aft S 0 [] fr (some 79) (nrm (andThen S (.seq (.region [⟨(some 80), none, (.mv (.t 9)), none, []⟩, ⟨(some 81), none, (.nilck (.t 80)), none, []⟩, ⟨(some 82), none, (.fieldAddr 0 (.t 81)), none, []⟩, ⟨(some 83), none, (.load (some 1) (.t 82)), none, []⟩, ⟨none, none, (.store 1 (.t 6) (.t 83)), none, []⟩, ⟨(some 7), none, (.mv (.c (.int .i64 0))), none, []⟩]) .ret) (bodyQ [.cell 6 (some 1), .t 7] (fun r m' => ∃ v', r = .tup [.agg [v'], .int .i64 0] ∧ Grow m m' ∧ Fresh m.length m' v' 3 (encs (layL t key val))))))) := by
 have hlt := (List.getElem?_eq_some_iff.1 hb).1
 refine (lay_spec key val (load_at0 hbt) rfl hb hpow hf).mono ?_
 rintro _ _ ⟨g, rfl⟩
 have e1 : (M.set b (Blk.cells true (encs (layL t key val))) ++ g)[bt]? = some (.cells true [[.slice b 0 t.length cap ex 3]]) := getElem?_grow (by rw [List.getElem?_set_ne hbb]; exact hbt)
 have e2 : (M.set b (Blk.cells true (encs (layL t key val))) ++ g)[R]? = some (.cells true [[.nils]]) := getElem?_grow (by rw [List.getElem?_set_ne (by omega)]; exact hR)
 have e3 : (M.set b (Blk.cells true (encs (layL t key val))) ++ g)[b]? = some (.cells true (encs (layL t key val))) := getElem?_grow (List.getElem?_set_self hlt)
 have hg1 : Grow m (M.set b (Blk.cells true (encs (layL t key val))) ++ g) := (hg.set (by omega) _).app
 generalize M.set b (Blk.cells true (encs (layL t key val))) ++ g = M1 at e1 e2 e3 hg1
 have l1 := fun k => load_at0 (k := k) (j := 0) e1
 have s1 := store_at0 (x := .agg [.slice b 0 t.length cap ex 3]) (j := 0) (n := 1) e2 rfl (by simp) rfl
 have hRl := (List.getElem?_eq_some_iff.1 e2).1
 have l2 := fun k => load_set0 (M := M1) (b := R) (own := true) (el := [.slice b 0 t.length cap ex 3]) (k := k) (j := 0) hRl
 simp only [cells_agg, splice, List.take_zero, List.nil_append, List.cons_append, List.length_cons, List.length_nil, Nat.zero_add, List.drop_succ_cons, List.drop_nil] at s1
 simp (maxDischargeDepth := 30) only [aft_mk, f9, f6, l1, s1, l2, amL, args0, Nat.reduceEqDiff, reduceCtorEq, ↓reduceIte, Nat.reduceAdd, resultsA, results1, Int.reduceNeg, splice, Nat.reduceLeDiff, part, fillA, fillE, Nat.reduceLT]
 refine ⟨_, rfl, hg1.set hmR _, Fresh.mk (.inr ⟨b, cap, ex, by omega, ?_, ?_⟩)⟩
 ·simp [layL_length]
 ·rw [List.getElem?_set_ne (by omega)]
  exact e3
theorem Put_spec {m : Mem} {v : V} {l : List Slot} (key val : Int) (hv : Sl m v 3 (encs l)) (hl : l.length < 5864062014806) : C S n_ephem_Put [.agg [v], .int .u64 key, .int .u64 val] m (fun r m' => ∃ v', r = .tup [.agg [v'], .int .i64 (putL l key val).2] ∧ Grow m m' ∧ Fresh m.length m' v' 3 (encs (putL l key val).1)) := by
 refine C_body rfl rfl rfl ?_
 unfold ephem_Put
 have hcell := hv.cell
 simp (maxDischargeDepth := 30) only [hcell, amL, args0, Nat.reduceEqDiff, reduceCtorEq, ↓reduceIte, Nat.reduceAdd, resultsA, results1, Int.reduceNeg, splice, Nat.reduceLeDiff, part, fillA, fillE, Nat.reduceLT]
 refine (Check_spec hv.app.app (by omega)).mono ?_
 rintro _ _ ⟨rfl, g, rfl⟩
 by_cases hval : validB l = true
 ·have hvc := valid_cases hval
  simp (maxDischargeDepth := 30) only [aft_mk, hval, hcell, amL, args0, Nat.reduceEqDiff, reduceCtorEq, ↓reduceIte, Nat.reduceAdd, resultsA, results1, Int.reduceNeg, splice, Nat.reduceLeDiff, part, fillA, fillE, Nat.reduceLT]
  refine (Own_spec hv.app.app.app hl).mono ?_
  rintro _ _ ⟨u, rfl, ⟨g2, rfl⟩, hu⟩
  have huc := hu.1.cell
  simp (maxDischargeDepth := 30) only [aft_mk, huc, amL, args0, Nat.reduceEqDiff, reduceCtorEq, ↓reduceIte, Nat.reduceAdd, resultsA, results1, Int.reduceNeg, splice, Nat.reduceLeDiff, part, fillA, fillE, Nat.reduceLT]
  generalize hM : m ++ [Blk.cells true [[v]]] ++ [Blk.cells true [[V.nils]]] ++ g ++ g2 = M at hu
  generalize hR : List.length (m ++ [Blk.cells true [[v]]]) = R
  have hgM : Grow (m ++ [Blk.cells true [[v]]] ++ [Blk.cells true [[V.nils]]]) M := by rw [← hM]; exact (Grow.refl _).app.app
  have hg0 : Grow m M := by rw [← hM]; exact (Grow.refl _).app.app.app.app
  have hRM : M[R]? = some (.cells true [[.nils]]) := hgM.get (by rw [← hR]; simp)
  have hmR : m.length ≤ R := by rw [← hR]; simp
  have hRl := (List.getElem?_eq_some_iff.1 hRM).1
  have hBu : R + 1 ≤ (m ++ [Blk.cells true [[v]]] ++ [Blk.cells true [[V.nils]]] ++ g).length := by rw [← hR]; simp; omega
  have hu' := hu.weaken hBu
  clear hM hgM hu hBu
  have hlen : (encs l).length = l.length := by simp
  by_cases hk : key = 0
  ·have l1 := fun k => load_at0 (M := M ++ [Blk.cells true [[u]]]) (b := M.length) (own := true) (el := [u]) (k := k) (j := 0) (by simp)
   have e2 : (M ++ [Blk.cells true [[u]]])[R]? = some (.cells true [[.nils]]) := getElem?_grow hRM
   have s1 := store_at0 (x := .agg [u]) (j := 0) (n := 1) e2 rfl (by simp) (by simp [cells_agg, huc])
   have l2 := fun k => load_set0 (M := M ++ [Blk.cells true [[u]]]) (b := R) (own := true) (el := [u]) (k := k) (j := 0) (by simp; omega)
   simp only [cells_agg, splice, List.take_zero, List.nil_append, List.cons_append, List.length_cons, List.length_nil, Nat.zero_add, List.drop_succ_cons, List.drop_nil] at s1
   simp (maxDischargeDepth := 30) only [hk, s1, l1, l2, putL, hval, amL, args0, Nat.reduceEqDiff, reduceCtorEq, ↓reduceIte, Nat.reduceAdd, resultsA, results1, Int.reduceNeg, splice, Nat.reduceLeDiff, part, fillA, fillE, Nat.reduceLT]
   refine ⟨u, rfl, hg0.app.set hmR _, ?_⟩
   refine ((hu'.app (g := [Blk.cells true [[u]]])).to (fun b x hb hx => ?_)).weaken (show m.length ≤ R + 1 by omega)
   rw [List.getElem?_set_ne (by omega)]
   exact hx
  have hne : ¬ key = 0 := hk
  simp (maxDischargeDepth := 30) only [hk, hu'.1.len, hlen, amL, args0, Nat.reduceEqDiff, reduceCtorEq, ↓reduceIte, Nat.reduceAdd, resultsA, results1, Int.reduceNeg, splice, Nat.reduceLeDiff, part, fillA, fillE, Nat.reduceLT]
  refine (find_spec (v := u) (l := l) key (by simp (maxDischargeDepth := 30) only [amL, args0, Nat.reduceEqDiff, reduceCtorEq, ↓reduceIte, Nat.reduceAdd, resultsA, results1, Int.reduceNeg, splice, Nat.reduceLeDiff, part, fillA, fillE, Nat.reduceLT]) rfl hu'.1.app hvc).mono ?_
  rintro _ _ ⟨rfl, g3, rfl⟩
  have hu3 : Fresh (R + 1) (M ++ [Blk.cells true [[u]]] ++ g3) u 3 (encs l) := hu'.app.app
  have hbt3 : (M ++ [Blk.cells true [[u]]] ++ g3)[M.length]? = some (.cells true [[u]]) := getElem?_grow (by simp)
  have hR3 : (M ++ [Blk.cells true [[u]]] ++ g3)[R]? = some (.cells true [[.nils]]) := getElem?_grow (getElem?_grow hRM)
  have hg3 : Grow m (M ++ [Blk.cells true [[u]]] ++ g3) := hg0.app.app
  generalize M ++ [Blk.cells true [[u]]] ++ g3 = M3 at hu3 hbt3 hR3 hg3
  generalize hbt : M.length = bt at hbt3
  have hRbt : R < bt := by omega
  -- a table that is not empty, laid in place
  have inplace : ∀ (fr : Frame) (M4 : Mem), Grow M3 M4 → l.length ≠ 0 → fr 9 = .ptr bt 0 0 → fr 6 = .ptr R 0 0 → putL l key val = (layL l key val, 0) → C S n_ephem_table_lay [.ptr bt 0 0, .int .u64 key, .int .u64 val] M4 (aft S 0 [] fr (some 79) (nrm (andThen S (.seq (.region [⟨(some 80), none, (.mv (.t 9)), none, []⟩, ⟨(some 81), none, (.nilck (.t 80)), none, []⟩, ⟨(some 82), none, (.fieldAddr 0 (.t 81)), none, []⟩, ⟨(some 83), none, (.load (some 1) (.t 82)), none, []⟩, ⟨none, none, (.store 1 (.t 6) (.t 83)), none, []⟩, ⟨(some 7), none, (.mv (.c (.int .i64 0))), none, []⟩]) .ret) (bodyQ [.cell 6 (some 1), .t 7] (fun r m' => ∃ v', r = .tup [.agg [v'], .int .i64 (putL l key val).2] ∧ Grow m m' ∧ Fresh m.length m' v' 3 (encs (putL l key val).1)))))) := by
   intro fr M4 hg4 hn0 f9 f6 hput
   rw [hput]
   obtain ⟨hpow, hfree⟩ := hvc.resolve_left hn0
   rcases hu3.cases with ⟨_, h0⟩ | ⟨b, cap, ex, hb1, rfl, hb3⟩
   ·rw [← hlen, h0] at hn0; exact absurd rfl hn0
   ·refine put_tail (b := b) (cap := cap) (ex := ex) (t := l) f9 f6 (by rw [← hlen]; exact hg4.get hbt3) (hg4.get hb3) (hg4.get hR3) hmR (by omega) (hg3.trans hg4) hpow hfree ?_
    rintro rfl
    rw [hbt3] at hb3
    have := congrArg (fun x : Option Blk => match x with | some (.cells _ els) => els | _ => []) hb3
    simp only at this
    have h3 : ∀ el ∈ [[V.slice b 0 (encs l).length cap ex 3]], el.length = 3 := by rw [this]; exact encs_z
    have := h3 _ (List.mem_singleton.2 rfl)
    simp at this
  -- a new table
  have anew : ∀ (fr : Frame) (M4 : Mem), Grow M3 M4 → fr 1 = .int .u64 key → fr 2 = .int .u64 val → fr 67 = .bool true → fr 9 = .ptr bt 0 0 → fr 6 = .ptr R 0 0 → needL l key = true → C S n_ephem_table_anew [.ptr bt 0 0] M4 (aft S 0 [⟨(some 70), (some (67, true)), (.un .not (.t 69)), none, []⟩, ⟨(some 71), none, (.pick (.t 67) (.t 70) (.c (.bool false))), none, []⟩] fr (some 69) (nrm (andThen S (.cond (.t 71) (.seq (.region [⟨(some 72), none, (.mv (.t 9)), none, []⟩, ⟨(some 73), none, (.nilck (.t 72)), none, []⟩, ⟨(some 74), none, (.fieldAddr 0 (.t 73)), none, []⟩, ⟨(some 75), none, (.load (some 1) (.t 74)), none, []⟩, ⟨none, none, (.store 1 (.t 6) (.t 75)), none, []⟩, ⟨(some 7), none, (.mv (.c (.int .i64 6))), none, []⟩]) .ret) .skip) (andThen S (.seq (.region [⟨(some 76), none, (.mv (.t 9)), none, []⟩, ⟨(some 77), none, (.mv (.t 1)), none, []⟩, ⟨(some 78), none, (.mv (.t 2)), none, []⟩, ⟨(some 79), none, (.call (.c (.fn n_ephem_table_lay [] [])) [(.t 76), (.t 77), (.t 78)]), none, []⟩]) (.seq (.region [⟨(some 80), none, (.mv (.t 9)), none, []⟩, ⟨(some 81), none, (.nilck (.t 80)), none, []⟩, ⟨(some 82), none, (.fieldAddr 0 (.t 81)), none, []⟩, ⟨(some 83), none, (.load (some 1) (.t 82)), none, []⟩, ⟨none, none, (.store 1 (.t 6) (.t 83)), none, []⟩, ⟨(some 7), none, (.mv (.c (.int .i64 0))), none, []⟩]) .ret)) (bodyQ [.cell 6 (some 1), .t 7] (fun r m' => ∃ v', r = .tup [.agg [v'], .int .i64 (putL l key val).2] ∧ Grow m m' ∧ Fresh m.length m' v' 3 (encs (putL l key val).1))))))) := by
   intro fr M4 hg4 f1 f2 f67 f9 f6 hnd
   have hn64 : l.length ≤ 64 := by
    rcases hvc with h | ⟨h, _⟩
    ·omega
    ·have := h.le; omega
   have hca := cnt_add (l := l)
   have hu63 : cnt 1 l ≤ 63 := by rcases hvc with h | ⟨_, h⟩ <;> omega
   have hbt4 := hg4.get hbt3
   have hR4 := hg4.get hR3
   refine (anew_spec hbt4 (hu3.1.grow hg4) hn64 hu63).mono ?_
   rintro _ M5 ⟨rfl, h5⟩
   by_cases hsz : sizeL (cnt 1 l) ≤ 64
   ·rw [if_pos hsz] at h5
    obtain ⟨b, cap, ex, hb4, hg5, hb5⟩ := h5
    obtain ⟨_, hpw, hfr⟩ := anewL_spec hsz
    have hput : putL l key val = (layL (anewL l) key val, 0) := by simp [putL, hval, hne, hnd, hsz]
    have hbtl := (List.getElem?_eq_some_iff.1 hbt4).1
    have hRl4 := (List.getElem?_eq_some_iff.1 hR4).1
    simp (maxDischargeDepth := 30) only [aft_mk, f1, f2, f67, f9, f6, hsz, amL, args0, Nat.reduceEqDiff, reduceCtorEq, ↓reduceIte, Nat.reduceAdd, resultsA, results1, Int.reduceNeg, splice, Nat.reduceLeDiff, part, fillA, fillE, Nat.reduceLT]
    rw [hput]
    refine put_tail (b := b) (cap := cap) (ex := ex) (t := anewL l) (by simp (maxDischargeDepth := 30) only [f9, amL, args0, Nat.reduceEqDiff, reduceCtorEq, ↓reduceIte, Nat.reduceAdd, resultsA, results1, Int.reduceNeg, splice, Nat.reduceLeDiff, part, fillA, fillE, Nat.reduceLT]) (by simp (maxDischargeDepth := 30) only [f6, amL, args0, Nat.reduceEqDiff, reduceCtorEq, ↓reduceIte, Nat.reduceAdd, resultsA, results1, Int.reduceNeg, splice, Nat.reduceLeDiff, part, fillA, fillE, Nat.reduceLT]) (hg5.get (List.getElem?_set_self hbtl)) hb5 (hg5.get (by rw [List.getElem?_set_ne (by omega)]; exact hR4)) hmR (by omega) ?_ hpw hfr (by omega)
    refine Grow.trans ?_ hg5
    exact (hg3.trans hg4).set (by omega) _
   ·rw [if_neg hsz] at h5
    have hput : putL l key val = (l, 6) := by simp [putL, hval, hne, hnd, hsz]
    have hbt5 := h5.get hbt4
    have hR5 := h5.get hR4
    have hu5 := (hu3.grow hg4).grow h5
    have hRl5 := (List.getElem?_eq_some_iff.1 hR5).1
    have l1 := fun k => load_at0 (k := k) (j := 0) hbt5
    have s1 := store_at0 (x := .agg [u]) (j := 0) (n := 1) hR5 rfl (by simp) (by simp [cells_agg, huc])
    have l2 := fun k => load_set0 (M := M5) (b := R) (own := true) (el := [u]) (k := k) (j := 0) hRl5
    simp only [cells_agg, splice, List.take_zero, List.nil_append, List.cons_append, List.length_cons, List.length_nil, Nat.zero_add, List.drop_succ_cons, List.drop_nil] at s1
    simp (maxDischargeDepth := 30) only [aft_mk, f67, f9, f6, hsz, l1, s1, l2, amL, args0, Nat.reduceEqDiff, reduceCtorEq, ↓reduceIte, Nat.reduceAdd, resultsA, results1, Int.reduceNeg, splice, Nat.reduceLeDiff, part, fillA, fillE, Nat.reduceLT]
    rw [hput]
    refine ⟨u, rfl, ((hg3.trans hg4).trans h5).set hmR _, ?_⟩
    refine (hu5.to (fun b x hb hx => ?_)).weaken (show m.length ≤ R + 1 by omega)
    rw [List.getElem?_set_ne (by omega)]
    exact hx
  by_cases hf : (findL l key).2 = true
  ·have hn0 : l.length ≠ 0 := by intro h; simp [findL, h] at hf
   have hput : putL l key val = (layL l key val, 0) := by simp [putL, hval, hne, needL, hf]
   simp (maxDischargeDepth := 30) only [aft_mk, hf, amL, args0, Nat.reduceEqDiff, reduceCtorEq, ↓reduceIte, Nat.reduceAdd, resultsA, results1, Int.reduceNeg, splice, Nat.reduceLeDiff, part, fillA, fillE, Nat.reduceLT]
   exact inplace _ M3 (Grow.refl _) hn0 (by simp (maxDischargeDepth := 30) only [amL, args0, Nat.reduceEqDiff, reduceCtorEq, ↓reduceIte, Nat.reduceAdd, resultsA, results1, Int.reduceNeg, splice, Nat.reduceLeDiff, part, fillA, fillE, Nat.reduceLT]) (by simp (maxDischargeDepth := 30) only [amL, args0, Nat.reduceEqDiff, reduceCtorEq, ↓reduceIte, Nat.reduceAdd, resultsA, results1, Int.reduceNeg, splice, Nat.reduceLeDiff, part, fillA, fillE, Nat.reduceLT]) hput
  by_cases hn0 : l.length = 0
  ·have hn0' : (l.length : Int) = 0 := by omega
   simp (maxDischargeDepth := 30) only [aft_mk, hf, hn0', amL, args0, Nat.reduceEqDiff, reduceCtorEq, ↓reduceIte, Nat.reduceAdd, resultsA, results1, Int.reduceNeg, splice, Nat.reduceLeDiff, part, fillA, fillE, Nat.reduceLT]
   exact anew _ M3 (Grow.refl _) (by simp (maxDischargeDepth := 30) only [amL, args0, Nat.reduceEqDiff, reduceCtorEq, ↓reduceIte, Nat.reduceAdd, resultsA, results1, Int.reduceNeg, splice, Nat.reduceLeDiff, part, fillA, fillE, Nat.reduceLT]) (by simp (maxDischargeDepth := 30) only [amL, args0, Nat.reduceEqDiff, reduceCtorEq, ↓reduceIte, Nat.reduceAdd, resultsA, results1, Int.reduceNeg, splice, Nat.reduceLeDiff, part, fillA, fillE, Nat.reduceLT]) (by simp (maxDischargeDepth := 30) only [amL, args0, Nat.reduceEqDiff, reduceCtorEq, ↓reduceIte, Nat.reduceAdd, resultsA, results1, Int.reduceNeg, splice, Nat.reduceLeDiff, part, fillA, fillE, Nat.reduceLT]) (by simp (maxDischargeDepth := 30) only [amL, args0, Nat.reduceEqDiff, reduceCtorEq, ↓reduceIte, Nat.reduceAdd, resultsA, results1, Int.reduceNeg, splice, Nat.reduceLeDiff, part, fillA, fillE, Nat.reduceLT]) (by simp (maxDischargeDepth := 30) only [amL, args0, Nat.reduceEqDiff, reduceCtorEq, ↓reduceIte, Nat.reduceAdd, resultsA, results1, Int.reduceNeg, splice, Nat.reduceLeDiff, part, fillA, fillE, Nat.reduceLT]) (by simp [needL, hf, hn0])
  have hn0' : ¬ (l.length : Int) = 0 := by omega
  obtain ⟨hpow, hfree⟩ := hvc.resolve_left hn0
  obtain ⟨hi, _⟩ := findL_spec (key := key) hpow
  obtain ⟨s, hs⟩ : ∃ s, l[(findL l key).1]? = some s := ⟨_, List.getElem?_eq_getElem hi⟩
  have ix := hu3.1.index (ki := .i64) (n := (findL l key).1) (by omega) (by omega)
  have ld := fun o k => hu3.1.load (o := o) (k := k) (encs_get hs)
  simp only [Int.toNat_natCast, enc] at ix ld
  have l1 := fun k => load_at0 (k := k) (j := 0) hbt3
  by_cases hst : s.st = 0
  ·simp (maxDischargeDepth := 30) only [aft_mk, hf, hn0', l1, ix, ld, hst, amL, args0, Nat.reduceEqDiff, reduceCtorEq, ↓reduceIte, Nat.reduceAdd, resultsA, results1, Int.reduceNeg, splice, Nat.reduceLeDiff, part, fillA, fillE, Nat.reduceLT]
   refine (many_spec (v := u) (l := l) 0 (by rw [load_at0 hbt3]; rfl) rfl hu3.1 (by omega)).mono ?_
   rintro _ _ ⟨rfl, g4, rfl⟩
   have hcl := cnt_le 0 l
   have hpl := hpow.le
   have w1 : IntKind.i64.wrap ((cnt 0 l : Int) - 1) = (cnt 0 l : Int) - 1 := by rw [wrap_i64] <;> omega
   have w2 : IntKind.i64.wrap (4 * ((cnt 0 l : Int) - 1)) = 4 * ((cnt 0 l : Int) - 1) := by rw [wrap_i64] <;> omega
   by_cases hfew : 4 * ((cnt 0 l : Int) - 1) < l.length
   ·simp (maxDischargeDepth := 30) only [aft_mk, hf, hn0', hst, w1, w2, hfew, amL, args0, Nat.reduceEqDiff, reduceCtorEq, ↓reduceIte, Nat.reduceAdd, resultsA, results1, Int.reduceNeg, splice, Nat.reduceLeDiff, part, fillA, fillE, Nat.reduceLT]
    exact anew _ _ (Grow.refl _).app (by simp (maxDischargeDepth := 30) only [amL, args0, Nat.reduceEqDiff, reduceCtorEq, ↓reduceIte, Nat.reduceAdd, resultsA, results1, Int.reduceNeg, splice, Nat.reduceLeDiff, part, fillA, fillE, Nat.reduceLT]) (by simp (maxDischargeDepth := 30) only [amL, args0, Nat.reduceEqDiff, reduceCtorEq, ↓reduceIte, Nat.reduceAdd, resultsA, results1, Int.reduceNeg, splice, Nat.reduceLeDiff, part, fillA, fillE, Nat.reduceLT]) (by simp (maxDischargeDepth := 30) only [amL, args0, Nat.reduceEqDiff, reduceCtorEq, ↓reduceIte, Nat.reduceAdd, resultsA, results1, Int.reduceNeg, splice, Nat.reduceLeDiff, part, fillA, fillE, Nat.reduceLT]) (by simp (maxDischargeDepth := 30) only [amL, args0, Nat.reduceEqDiff, reduceCtorEq, ↓reduceIte, Nat.reduceAdd, resultsA, results1, Int.reduceNeg, splice, Nat.reduceLeDiff, part, fillA, fillE, Nat.reduceLT]) (by simp (maxDischargeDepth := 30) only [amL, args0, Nat.reduceEqDiff, reduceCtorEq, ↓reduceIte, Nat.reduceAdd, resultsA, results1, Int.reduceNeg, splice, Nat.reduceLeDiff, part, fillA, fillE, Nat.reduceLT]) (by simp [needL, hf, hs, hst, hfew])
   ·simp (maxDischargeDepth := 30) only [aft_mk, hf, hn0', hst, w1, w2, hfew, amL, args0, Nat.reduceEqDiff, reduceCtorEq, ↓reduceIte, Nat.reduceAdd, resultsA, results1, Int.reduceNeg, splice, Nat.reduceLeDiff, part, fillA, fillE, Nat.reduceLT]
    exact inplace _ _ (Grow.refl _).app hn0 (by simp (maxDischargeDepth := 30) only [amL, args0, Nat.reduceEqDiff, reduceCtorEq, ↓reduceIte, Nat.reduceAdd, resultsA, results1, Int.reduceNeg, splice, Nat.reduceLeDiff, part, fillA, fillE, Nat.reduceLT]) (by simp (maxDischargeDepth := 30) only [amL, args0, Nat.reduceEqDiff, reduceCtorEq, ↓reduceIte, Nat.reduceAdd, resultsA, results1, Int.reduceNeg, splice, Nat.reduceLeDiff, part, fillA, fillE, Nat.reduceLT]) (by simp [putL, hval, hne, needL, hf, hn0, hs, hst, hfew])
  ·simp (maxDischargeDepth := 30) only [aft_mk, hf, hn0', l1, ix, ld, hst, amL, args0, Nat.reduceEqDiff, reduceCtorEq, ↓reduceIte, Nat.reduceAdd, resultsA, results1, Int.reduceNeg, splice, Nat.reduceLeDiff, part, fillA, fillE, Nat.reduceLT]
   exact inplace _ M3 (Grow.refl _) hn0 (by simp (maxDischargeDepth := 30) only [amL, args0, Nat.reduceEqDiff, reduceCtorEq, ↓reduceIte, Nat.reduceAdd, resultsA, results1, Int.reduceNeg, splice, Nat.reduceLeDiff, part, fillA, fillE, Nat.reduceLT]) (by simp (maxDischargeDepth := 30) only [amL, args0, Nat.reduceEqDiff, reduceCtorEq, ↓reduceIte, Nat.reduceAdd, resultsA, results1, Int.reduceNeg, splice, Nat.reduceLeDiff, part, fillA, fillE, Nat.reduceLT]) (by simp [putL, hval, hne, needL, hf, hn0, hs, hst])
 ·have l1 := fun k => load_set0 (M := (m ++ [Blk.cells true [[v]]] ++ [Blk.cells true [[V.nils]]] ++ g)) (b := List.length (m ++ [Blk.cells true [[v]]])) (own := true) (el := [V.nils]) (k := k) (j := 0) (by simp)
  have c : ¬ (2 : Int) = 0 := by omega
  simp (maxDischargeDepth := 30) only [aft_mk, hval, hcell, putL, c, l1, amL, args0, Nat.reduceEqDiff, reduceCtorEq, ↓reduceIte, Nat.reduceAdd, resultsA, results1, Int.reduceNeg, splice, Nat.reduceLeDiff, part, fillA, fillE, Nat.reduceLT]
  exact ⟨.nils, rfl, (Grow.refl _).app.app.app, Fresh.mk (.inl ⟨rfl, rfl⟩)⟩
end Go.AM.G.E
set_option maxRecDepth 100000
namespace Go.AM.G.E
open Go Go.AM Go.AM.G
/-! the plain law of the table -/
def hk (l : List Slot) (k : Int) : Nat := (homeI k l.length).toNat
def sl (l : List Slot) (h d : Nat) : Slot := l.getD ((h + d) % l.length) zeroS
def Q (l : List Slot) (k : Int) (h d : Nat) : Prop := ∀ e, e < d → (sl l h e).st ≠ 0 ∧ ¬ ((sl l h e).st = 1 ∧ (sl l h e).key = k)
theorem sl_get {l : List Slot} {h d : Nat} (hn : 0 < l.length) : l[(h + d) % l.length]? = some (sl l h d) := by
 have := Nat.mod_lt (h + d) hn
 simp [sl, List.getD_eq_getElem?_getD, List.getElem?_eq_getElem this]
theorem mod_cases {h e n : Nat} (hh : h < n) (he : e < n) : (h + e < n ∧ (h + e) % n = h + e) ∨ (n ≤ h + e ∧ (h + e) % n = h + e - n) := by
 by_cases c : h + e < n
 ·exact .inl ⟨c, Nat.mod_eq_of_lt c⟩
 ·exact .inr ⟨by omega, by rw [Nat.mod_eq_sub_mod (by omega), Nat.mod_eq_of_lt (by omega)]⟩
theorem mod_inj {h e d n : Nat} (hh : h < n) (he : e < n) (hd : d < n) (c : (h + e) % n = (h + d) % n) : e = d := by
 rcases mod_cases hh he with ⟨_, a⟩ | ⟨_, a⟩ <;> rcases mod_cases hh hd with ⟨_, b⟩ | ⟨_, b⟩ <;> omega
theorem findF_main {l : List Slot} {k : Int} {h : Nat} (hn : 0 < l.length) : ∀ {f a : Nat} {g : Option Nat}, a + f = l.length → Q l k h a → (∀ y, g = some y → ∃ e, e < a ∧ y = (h + e) % l.length ∧ (sl l h e).st = 2) →
  ((findF l k f ((h + a) % l.length) g).2 = true → ∃ d, d < l.length ∧ Q l k h d ∧ (findF l k f ((h + a) % l.length) g).1 = (h + d) % l.length ∧ (sl l h d).st = 1 ∧ (sl l h d).key = k) ∧
  ((findF l k f ((h + a) % l.length) g).2 = false → Q l k h l.length ∨ ∃ d, d < l.length ∧ Q l k h d ∧ (sl l h d).st = 0 ∧ ((findF l k f ((h + a) % l.length) g).1 = (h + d) % l.length ∨ ∃ e, e < d ∧ (findF l k f ((h + a) % l.length) g).1 = (h + e) % l.length ∧ (sl l h e).st = 2))
 | 0, a, g, ha, hq, hg => by
  simp only [findF]
  refine ⟨by simp, fun _ => .inl ?_⟩
  rw [← ha]
  exact hq
 | f + 1, a, g, ha, hq, hg => by
  have hs := sl_get (h := h) (d := a) hn
  simp only [findF, hs]
  by_cases h0 : (sl l h a).st = 0
  ·rw [if_pos h0]
   refine ⟨by simp, fun _ => .inr ⟨a, by omega, hq, h0, ?_⟩⟩
   cases g with
   | none => exact .inl rfl
   | some y =>
    obtain ⟨e, e1, e2, e3⟩ := hg y rfl
    exact .inr ⟨e, e1, e2, e3⟩
  rw [if_neg h0]
  by_cases h1 : (sl l h a).st = 1 ∧ (sl l h a).key = k
  ·rw [if_pos h1]
   exact ⟨fun _ => ⟨a, by omega, hq, rfl, h1.1, h1.2⟩, by simp⟩
  rw [if_neg h1]
  have e : ((h + a) % l.length + 1) % l.length = (h + (a + 1)) % l.length := by rw [Nat.mod_add_mod]; rfl
  rw [e]
  refine findF_main hn (by omega) ?_ ?_
  ·intro x hx
   by_cases hxa : x = a
   ·subst hxa; exact ⟨h0, h1⟩
   ·exact hq x (by omega)
  ·intro y hy
   split at hy
   ·rename_i hc
    cases hy
    exact ⟨a, by omega, rfl, hc.1⟩
   ·obtain ⟨e, e1, e2⟩ := hg y hy
    exact ⟨e, by omega, e2⟩
theorem hk_lt {l : List Slot} {k : Int} (hp : Pow l.length) : hk l k < l.length := by
 have := hp.le
 obtain ⟨h0, h1⟩ := home_range (key := k) hp
 unfold hk
 omega
theorem findL_eq {l : List Slot} {k : Int} (hp : Pow l.length) : findL l k = findF l k l.length ((hk l k + 0) % l.length) none := by
 have := hp.le
 have h1 := hk_lt (k := k) hp
 unfold findL
 rw [if_neg (by omega), Nat.add_zero, Nat.mod_eq_of_lt h1]
 rfl
theorem no_free {l : List Slot} {k : Int} {h : Nat} (hh : h < l.length) (h0 : 0 < cnt 0 l) : ¬ Q l k h l.length := by
 intro hq
 obtain ⟨j, s, hj, hs⟩ := exists_free h0
 obtain ⟨hjl, e⟩ := List.getElem?_eq_some_iff.1 hj
 have hx : (h + (j + l.length - h) % l.length) % l.length = j := by
  rw [Nat.add_mod_mod]
  have : h + (j + l.length - h) = j + l.length := by omega
  rw [this, Nat.add_mod_right, Nat.mod_eq_of_lt hjl]
 have h2 := hq ((j + l.length - h) % l.length) (Nat.mod_lt _ (by omega))
 have h3 := sl_get (h := h) (d := (j + l.length - h) % l.length) (l := l) (by omega)
 rw [hx, hj] at h3
 cases h3
 exact h2.1 hs
theorem find_true {l : List Slot} {k : Int} (hp : Pow l.length) (h : (findL l k).2 = true) : ∃ d, d < l.length ∧ Q l k (hk l k) d ∧ (findL l k).1 = (hk l k + d) % l.length ∧ (sl l (hk l k) d).st = 1 ∧ (sl l (hk l k) d).key = k := by
 have hle := hp.le
 rw [findL_eq hp] at h ⊢
 exact (findF_main (by omega) (by omega) (fun e he => absurd he (Nat.not_lt_zero _)) (by simp)).1 h
theorem find_false {l : List Slot} {k : Int} (hp : Pow l.length) (h0 : 0 < cnt 0 l) (h : (findL l k).2 = false) : ∃ d, d < l.length ∧ Q l k (hk l k) d ∧ (sl l (hk l k) d).st = 0 ∧ ((findL l k).1 = (hk l k + d) % l.length ∨ ∃ e, e < d ∧ (findL l k).1 = (hk l k + e) % l.length ∧ (sl l (hk l k) e).st = 2) := by
 have hle := hp.le
 rw [findL_eq hp] at h ⊢
 exact ((findF_main (by omega) (by omega) (fun e he => absurd he (Nat.not_lt_zero _)) (by simp)).2 h).resolve_left (no_free (hk_lt hp) h0)
theorem find_at {l : List Slot} {k : Int} {d : Nat} (hp : Pow l.length) (h0 : 0 < cnt 0 l) (hd : d < l.length) (hq : Q l k (hk l k) d) (h1 : (sl l (hk l k) d).st = 1) (h2 : (sl l (hk l k) d).key = k) : findL l k = ((hk l k + d) % l.length, true) := by
 cases h : (findL l k).2 with
 | true =>
  obtain ⟨d', a1, a2, a3, a4, a5⟩ := find_true hp h
  have : d' = d := by
   rcases Nat.lt_trichotomy d' d with c | c | c
   ·exact absurd ⟨a4, a5⟩ (hq d' c).2
   ·exact c
   ·exact absurd ⟨h1, h2⟩ (a2 d c).2
  subst this
  rw [← a3, ← h]
 | false =>
  obtain ⟨d', a1, a2, a3, _⟩ := find_false hp h0 h
  rcases Nat.lt_trichotomy d' d with c | c | c
  ·exact absurd a3 (hq d' c).1
  ·subst c; omega
  ·exact absurd ⟨h1, h2⟩ (a2 d c).2
structure okT (l : List Slot) : Prop where
 pow : Pow l.length
 free : 0 < cnt 0 l
 ok : ∀ i s, l[i]? = some s → okS l i s = true
theorem okFrom_iff {l r : List Slot} : ∀ {i : Nat}, okFrom l i r = true ↔ ∀ j s, r[j]? = some s → okS l (i + j) s = true := by
 induction r with
 | nil => intro i; simp [okFrom]
 | cons a r ih =>
  intro i
  simp only [okFrom, Bool.and_eq_true, ih]
  constructor
  ·rintro ⟨h1, h2⟩ j s hj
   cases j with
   | zero => simp at hj; subst hj; exact h1
   | succ j => have := h2 j s (by simpa using hj); rwa [show i + 1 + j = i + (j + 1) by omega] at this
  ·intro h
   refine ⟨h 0 a rfl, fun j s hj => ?_⟩
   have := h (j + 1) s (by simpa using hj)
   rwa [show i + (j + 1) = i + 1 + j by omega] at this
theorem valid_iff {l : List Slot} : validB l = true ↔ l.length = 0 ∨ okT l ∧ l.length ≤ 4 * cnt 0 l := by
 simp only [validB, Bool.or_eq_true, Bool.and_eq_true, decide_eq_true_eq, okFrom_iff, Nat.zero_add]
 constructor
 ·rintro (h | ⟨h1, h2, h3⟩)
  ·exact .inl h
  ·have := h1.le
   exact .inr ⟨⟨h1, by omega, h3⟩, h2⟩
 ·rintro (h | ⟨h1, h2⟩)
  ·exact .inl h
  ·exact .inr ⟨h1.pow, h2, h1.ok⟩
def Has (l : List Slot) (k v : Int) : Prop := ∃ (j : Nat) (s : Slot), l[j]? = some s ∧ s.st = 1 ∧ s.key = k ∧ s.val = v
theorem okT.find {l : List Slot} (h : okT l) {j : Nat} {s : Slot} (hj : l[j]? = some s) (h1 : s.st = 1) : findL l s.key = (j, true) ∧ s.key ≠ 0 := by
 have := h.ok j s hj
 simp only [okS, h1, if_true, Bool.and_eq_true, decide_eq_true_eq] at this
 exact ⟨this.2.2, this.2.1⟩
theorem okT.uniq {l : List Slot} (h : okT l) {j j' : Nat} {s s' : Slot} (hj : l[j]? = some s) (h1 : s.st = 1) (hj' : l[j']? = some s') (h1' : s'.st = 1) (hk : s.key = s'.key) : j = j' := by
 have a := (h.find hj h1).1
 have b := (h.find hj' h1').1
 rw [hk, b] at a
 simpa using a.symm
theorem set_sl {l : List Slot} {i h d : Nat} {x : Slot} (hn : 0 < l.length) : sl (l.set i x) h d = if (h + d) % l.length = i then x else sl l h d := by
 have hm := Nat.mod_lt (h + d) hn
 unfold sl
 simp only [List.length_set, List.getD_eq_getElem?_getD, List.getElem?_set]
 split
 ·rename_i e
  subst e
  simp [hm]
 ·rename_i e
  rw [if_neg (fun c => e c.symm)]
theorem okT.set {l : List Slot} (h : okT l) {i : Nat} {x : Slot} (hi : i < l.length) (h0 : x.st ≠ 0) (hfree : 0 < cnt 0 (l.set i x))
  (hold : ∀ s, l[i]? = some s → s.st = 1 → x.st ≠ 1 ∨ s.key = x.key) (hx : okS (l.set i x) i x = true) (hxk : x.st = 1 → ∀ j s, l[j]? = some s → s.st = 1 → s.key = x.key → j = i) : okT (l.set i x) := by
 have hn : 0 < l.length := by omega
 have hlen : (l.set i x).length = l.length := List.length_set
 refine ⟨by rw [hlen]; exact h.pow, hfree, fun j s hj => ?_⟩
 by_cases hji : j = i
 ·subst hji
  rw [List.getElem?_set_self hi] at hj
  cases hj
  exact hx
 rw [List.getElem?_set_ne (Ne.symm hji)] at hj
 have hok := h.ok j s hj
 by_cases h1 : s.st = 1
 ·obtain ⟨hf, hk0⟩ := h.find hj h1
  obtain ⟨d, d1, d2, d3, d4, d5⟩ := find_true h.pow (k := s.key) (by rw [hf])
  rw [hf] at d3
  have hkk : hk (l.set i x) s.key = hk l s.key := by unfold hk; rw [hlen]
  have hp' : Pow (l.set i x).length := by rw [hlen]; exact h.pow
  have hfd : findL (l.set i x) s.key = ((hk (l.set i x) s.key + d) % (l.set i x).length, true) := by
   refine find_at hp' hfree (by omega) ?_ ?_ ?_
   ·intro e he
    rw [hkk, set_sl hn]
    split
    ·refine ⟨h0, fun c => ?_⟩
     exact hji (hxk c.1 j s hj h1 c.2.symm)
    ·exact d2 e he
   ·rw [hkk, set_sl hn, if_neg (by rw [← d3]; exact hji)]; exact d4
   ·rw [hkk, set_sl hn, if_neg (by rw [← d3]; exact hji)]; exact d5
  rw [hkk, hlen, ← d3] at hfd
  simp only [okS, h1, hfd] at hok ⊢
  exact hok.trans rfl |> fun _ => by simpa using hk0
 ·simpa [okS, h1] using hok
theorem okT.lay {l : List Slot} (h : okT l) {k v : Int} (hk0 : k ≠ 0) (hfree : 0 < cnt 0 (layL l k v)) : okT (layL l k v) := by
 obtain ⟨hi, hfs⟩ := findL_spec (key := k) h.pow
 have hn : 0 < l.length := by omega
 have hlen : (layL l k v).length = l.length := layL_length
 have hp' : Pow (layL l k v).length := by rw [hlen]; exact h.pow
 have hkk : hk (layL l k v) k = hk l k := by unfold hk; rw [hlen]
 have hfx : ∀ d, d < l.length → Q l k (hk l k) d → (findL l k).1 = (hk l k + d) % l.length → findL (layL l k v) k = ((findL l k).1, true) := by
  intro d hd hq he
  have : findL (layL l k v) k = ((hk (layL l k v) k + d) % (layL l k v).length, true) := by
   refine find_at hp' hfree (by omega) ?_ ?_ ?_
   ·intro e hed
    unfold layL
    rw [set_sl hn]
    unfold layL at hkk
    rw [hkk, if_neg]
    ·exact hq e hed
    ·rw [he]
     intro c
     have := mod_inj (hk_lt (k := k) h.pow) (show e < l.length by omega) hd c
     omega
   ·rw [hkk]; unfold layL; rw [set_sl hn, if_pos he.symm]
   ·rw [hkk]; unfold layL; rw [set_sl hn, if_pos he.symm]
  rw [this, hkk, hlen, ← he]
 have hnew : findL (layL l k v) k = ((findL l k).1, true) := by
  cases hf : (findL l k).2 with
  | true =>
   obtain ⟨d, d1, d2, d3, _⟩ := find_true h.pow hf
   exact hfx d d1 d2 d3
  | false =>
   obtain ⟨d, d1, d2, d3, d4 | ⟨e, e1, e2, e3⟩⟩ := find_false h.pow h.free hf
   ·exact hfx d d1 d2 d4
   ·exact hfx e (by omega) (fun x hx => d2 x (by omega)) e2
 have hu : ∀ j s, l[j]? = some s → s.st = 1 → s.key = k → j = (findL l k).1 := by
  intro j s hj h1 hk
  have := (h.find hj h1).1
  rw [hk] at this
  rw [this]
 have hst : ∀ s, l[(findL l k).1]? = some s → s.st = 1 → s.key = k := by
  intro s hs h1
  cases hf : (findL l k).2 with
  | true =>
   obtain ⟨s', a, b, c⟩ := hfs hf
   rw [a] at hs; cases hs; exact c
  | false =>
   obtain ⟨d, d1, d2, d3, d4 | ⟨e, e1, e2, e3⟩⟩ := find_false h.pow h.free hf
   ·rw [d4, sl_get hn] at hs; cases hs; omega
   ·rw [e2, sl_get hn] at hs; cases hs; omega
 refine h.set hi (show (1:Int) ≠ 0 by decide) hfree (fun s hs h1 => .inr (hst s hs h1)) ?_ (fun _ j s hj h1 hk => hu j s hj h1 hk)
 have hnew' : findL (l.set (findL l k).1 ⟨1, k, v⟩) k = ((findL l k).1, true) := hnew
 simp [okS, hnew', hk0]
theorem Has.len {l : List Slot} {k v : Int} (h : Has l k v) : 0 < l.length := by
 obtain ⟨j, s, hj, _⟩ := h
 have := (List.getElem?_eq_some_iff.1 hj).1
 omega
end Go.AM.G.E
set_option maxRecDepth 100000
namespace Go.AM.G.E
open Go Go.AM Go.AM.G
theorem refHome_spec {m : Mem} (key n : Int) : C S n_ref10_Home [.int .u64 key, .int .i64 n] m (fun r m' => r = .tup [.int .i64 (if Pow n then homeI key n else 0), .int .i64 (if Pow n then 0 else 1)] ∧ m = m') := by
 have h0 : ∀ x : Int, 0 ≤ IntKind.u64.wrap x ∧ IntKind.u64.wrap x < 18446744073709551616 := fun x => by rw [IntKind.wrap_u64]; omega
 obtain ⟨a, b⟩ := h0 (key * 11400714819323198485)
 have q : ∀ d : Int, 0 < d → IntKind.u64.wrap ((IntKind.u64.wrap (key * 11400714819323198485)).tdiv d) = (IntKind.u64.wrap (key * 11400714819323198485)).fdiv d := fun d hd => by
  rw [Int.tdiv_eq_ediv_of_nonneg a, Int.fdiv_eq_ediv_of_nonneg _ (by omega)]
  have h1 := Int.ediv_nonneg a (by omega : (0 : Int) ≤ d)
  have h2 : (IntKind.u64.wrap (key * 11400714819323198485)) / d ≤ IntKind.u64.wrap (key * 11400714819323198485) := Int.ediv_le_self _ a
  rw [wrap_u64] <;> omega
 refine C_body rfl rfl rfl ?_
 unfold ref10_Home
 by_cases h8 : n = 8
 ·subst h8
  have hp : Pow 8 := by decide
  have e : homeI key 8 = IntKind.i64.wrap ((IntKind.u64.wrap (key * 11400714819323198485)).fdiv 2305843009213693952) := rfl
  have c : ¬ (2305843009213693952 : Int) = 0 := by decide
  simp (maxDischargeDepth := 30) only [hp, e, q 2305843009213693952 (by decide), c, amL, args0, Nat.reduceEqDiff, reduceCtorEq, ↓reduceIte, Nat.reduceAdd, resultsA, results1, Int.reduceNeg, splice, Nat.reduceLeDiff, part, fillA, fillE, Nat.reduceLT]
 by_cases h16 : n = 16
 ·subst h16
  have hp : Pow 16 := by decide
  have e : homeI key 16 = IntKind.i64.wrap ((IntKind.u64.wrap (key * 11400714819323198485)).fdiv 1152921504606846976) := rfl
  have c : ¬ (1152921504606846976 : Int) = 0 := by decide
  simp (maxDischargeDepth := 30) only [hp, h8, e, q 1152921504606846976 (by decide), c, amL, args0, Nat.reduceEqDiff, reduceCtorEq, ↓reduceIte, Nat.reduceAdd, resultsA, results1, Int.reduceNeg, splice, Nat.reduceLeDiff, part, fillA, fillE, Nat.reduceLT]
 by_cases h32 : n = 32
 ·subst h32
  have hp : Pow 32 := by decide
  have e : homeI key 32 = IntKind.i64.wrap ((IntKind.u64.wrap (key * 11400714819323198485)).fdiv 576460752303423488) := rfl
  have c : ¬ (576460752303423488 : Int) = 0 := by decide
  simp (maxDischargeDepth := 30) only [hp, h8, h16, e, q 576460752303423488 (by decide), c, amL, args0, Nat.reduceEqDiff, reduceCtorEq, ↓reduceIte, Nat.reduceAdd, resultsA, results1, Int.reduceNeg, splice, Nat.reduceLeDiff, part, fillA, fillE, Nat.reduceLT]
 by_cases h64 : n = 64
 ·subst h64
  have hp : Pow 64 := by decide
  have e : homeI key 64 = IntKind.i64.wrap ((IntKind.u64.wrap (key * 11400714819323198485)).fdiv 288230376151711744) := rfl
  have c : ¬ (288230376151711744 : Int) = 0 := by decide
  simp (maxDischargeDepth := 30) only [hp, h8, h16, h32, e, q 288230376151711744 (by decide), c, amL, args0, Nat.reduceEqDiff, reduceCtorEq, ↓reduceIte, Nat.reduceAdd, resultsA, results1, Int.reduceNeg, splice, Nat.reduceLeDiff, part, fillA, fillE, Nat.reduceLT]
 have hp : ¬ Pow n := by unfold Pow; omega
 simp (maxDischargeDepth := 30) only [hp, h8, h16, h32, h64, amL, args0, Nat.reduceEqDiff, reduceCtorEq, ↓reduceIte, Nat.reduceAdd, resultsA, results1, Int.reduceNeg, splice, Nat.reduceLeDiff, part, fillA, fillE, Nat.reduceLT]
theorem refMany_spec {m : Mem} {v : V} {l : List Slot} (st : Int) (hv : Sl m v 3 (encs l)) (hl : l.length < 2 ^ 62) : C S n_ref10_many [.agg [v], .int .u8 st] m (fun v m' => v = .int .i64 (cnt st l) ∧ Grow m m') := by
 refine C_body rfl rfl rfl ?_
 unfold ref10_many
 have hcell := hv.cell
 have hlen : (encs l).length = l.length := by simp
 simp (maxDischargeDepth := 30) only [hcell, hv.len, amL, args0, Nat.reduceEqDiff, reduceCtorEq, ↓reduceIte, Nat.reduceAdd, resultsA, results1, Int.reduceNeg, splice, Nat.reduceLeDiff, part, fillA, fillE, Nat.reduceLT]
 let I := fun (k : Nat) (fr : Frame) (M : Mem) => ∃ i : Nat, i ≤ l.length ∧ k = l.length - i ∧ fr 1 = .int .u8 st ∧ fr 9 = v ∧ fr 10 = .int .i64 l.length ∧ fr 11 = .int .i64 i ∧ fr 5 = .int .i64 (cnt st (l.take i)) ∧ Grow m M
 refine W_loop I ?_ l.length ?_
 ·rintro k fr M ⟨i, hi, rfl, h1, h12, h13, h14, h5, hg⟩
  unfold ref10_many_l0
  simp (maxDischargeDepth := 30) only [h1, h12, h13, h14, h5, amL, args0, Nat.reduceEqDiff, reduceCtorEq, ↓reduceIte, Nat.reduceAdd, resultsA, results1, Int.reduceNeg, splice, Nat.reduceLeDiff, part, fillA, fillE, Nat.reduceLT]
  first | (refine O_split (by simp only [put_apply, Nat.reduceEqDiff, ↓reduceIte, reduceCtorEq]; rfl) (fun h => ?_) (fun h => ?_) <;> simp only [decide_eq_true_eq, decide_eq_false_iff_not, Decidable.not_not, Bool.and_eq_true, Bool.not_eq_true', Bool.not_eq_false'] at h) | (refine W_split (by simp only [get_t, put_apply, Nat.reduceEqDiff, ↓reduceIte, reduceCtorEq]; rfl) (fun h => ?_) (fun h => ?_) <;> simp only [decide_eq_true_eq, decide_eq_false_iff_not, Decidable.not_not, Bool.and_eq_true, Bool.not_eq_true', Bool.not_eq_false'] at h)
  ·have hil : i < l.length := by omega
   obtain ⟨s, hs⟩ : ∃ s, l[i]? = some s := ⟨_, List.getElem?_eq_getElem hil⟩
   have hcs := cnt_succ (st := st) hs
   have hcl := cnt_le st (l.take i)
   have hsl := hv.grow hg
   rw [List.length_take] at hcl
   have w1 : IntKind.i64.wrap ((i : Int) + 1) = ((i + 1 : Nat) : Int) := by rw [wrap_i64] <;> omega
   have w2 : IntKind.i64.wrap ((cnt st (l.take i) : Int) + 1) = ((cnt st (l.take i) + 1 : Nat) : Int) := by rw [wrap_i64] <;> omega
   simp (maxDischargeDepth := 30) only [h, h1, h12, h13, h14, h5, hsl.index (ki := .i64) (n := i) (by omega) (by omega), hsl.load (encs_get hs), enc, amL, args0, Nat.reduceEqDiff, reduceCtorEq, ↓reduceIte, Nat.reduceAdd, resultsA, results1, Int.reduceNeg, splice, Nat.reduceLeDiff, part, fillA, fillE, Nat.reduceLT]
   first | (refine O_split (by simp only [put_apply, Nat.reduceEqDiff, ↓reduceIte, reduceCtorEq]; rfl) (fun h' => ?_) (fun h' => ?_) <;> simp only [decide_eq_true_eq, decide_eq_false_iff_not, Decidable.not_not, Bool.and_eq_true, Bool.not_eq_true', Bool.not_eq_false'] at h') | (refine W_split (by simp only [get_t, put_apply, Nat.reduceEqDiff, ↓reduceIte, reduceCtorEq]; rfl) (fun h' => ?_) (fun h' => ?_) <;> simp only [decide_eq_true_eq, decide_eq_false_iff_not, Decidable.not_not, Bool.and_eq_true, Bool.not_eq_true', Bool.not_eq_false'] at h')
   ·simp (maxDischargeDepth := 30) only [h1, h12, h13, h14, h5, w1, w2, amL, args0, Nat.reduceEqDiff, reduceCtorEq, ↓reduceIte, Nat.reduceAdd, resultsA, results1, Int.reduceNeg, splice, Nat.reduceLeDiff, part, fillA, fillE, Nat.reduceLT]
    refine ⟨_, ?_, i + 1, by omega, rfl, ?_, ?_, ?_, ?_, ?_, hg.app⟩
    ·omega
    all_goals simp (maxDischargeDepth := 30) only [h1, h12, h13, h14, h5, amL, args0, Nat.reduceEqDiff, reduceCtorEq, ↓reduceIte, Nat.reduceAdd, resultsA, results1, Int.reduceNeg, splice, Nat.reduceLeDiff, part, fillA, fillE, Nat.reduceLT]
    rw [hcs, if_pos h']
   ·simp (maxDischargeDepth := 30) only [h1, h12, h13, h14, h5, w1, w2, amL, args0, Nat.reduceEqDiff, reduceCtorEq, ↓reduceIte, Nat.reduceAdd, resultsA, results1, Int.reduceNeg, splice, Nat.reduceLeDiff, part, fillA, fillE, Nat.reduceLT]
    refine ⟨_, ?_, i + 1, by omega, rfl, ?_, ?_, ?_, ?_, ?_, hg.app⟩
    ·omega
    all_goals simp (maxDischargeDepth := 30) only [h1, h12, h13, h14, h5, amL, args0, Nat.reduceEqDiff, reduceCtorEq, ↓reduceIte, Nat.reduceAdd, resultsA, results1, Int.reduceNeg, splice, Nat.reduceLeDiff, part, fillA, fillE, Nat.reduceLT]
    rw [hcs, if_neg h']
    rfl
  ·simp (maxDischargeDepth := 30) only [h, h1, h12, h13, h14, h5, amL, args0, Nat.reduceEqDiff, reduceCtorEq, ↓reduceIte, Nat.reduceAdd, resultsA, results1, Int.reduceNeg, splice, Nat.reduceLeDiff, part, fillA, fillE, Nat.reduceLT]
   have : l.take i = l := List.take_of_length_le (by omega)
   rw [this]
   exact ⟨rfl, hg⟩
 ·exact ⟨0, by omega, rfl, by simp (maxDischargeDepth := 30) only [amL, args0, Nat.reduceEqDiff, reduceCtorEq, ↓reduceIte, Nat.reduceAdd, resultsA, results1, Int.reduceNeg, splice, Nat.reduceLeDiff, part, fillA, fillE, Nat.reduceLT], by simp (maxDischargeDepth := 30) only [amL, args0, Nat.reduceEqDiff, reduceCtorEq, ↓reduceIte, Nat.reduceAdd, resultsA, results1, Int.reduceNeg, splice, Nat.reduceLeDiff, part, fillA, fillE, Nat.reduceLT], by simp (maxDischargeDepth := 30) only [hlen, amL, args0, Nat.reduceEqDiff, reduceCtorEq, ↓reduceIte, Nat.reduceAdd, resultsA, results1, Int.reduceNeg, splice, Nat.reduceLeDiff, part, fillA, fillE, Nat.reduceLT], by simp (maxDischargeDepth := 30) only [amL, args0, Nat.reduceEqDiff, reduceCtorEq, ↓reduceIte, Nat.reduceAdd, resultsA, results1, Int.reduceNeg, splice, Nat.reduceLeDiff, part, fillA, fillE, Nat.reduceLT]; rfl, by simp (maxDischargeDepth := 30) only [amL, args0, Nat.reduceEqDiff, reduceCtorEq, ↓reduceIte, Nat.reduceAdd, resultsA, results1, Int.reduceNeg, splice, Nat.reduceLeDiff, part, fillA, fillE, Nat.reduceLT]; rfl, (Grow.refl _).app⟩
def rf (key : Int) : List Slot → Nat → Int
 | [], _ => -1
 | s :: r, i => if s.st = 1 ∧ s.key = key then (i : Int) else rf key r (i + 1)
theorem rf_drop {key : Int} {l : List Slot} {i : Nat} {s : Slot} (h : l[i]? = some s) : rf key (l.drop i) i = if s.st = 1 ∧ s.key = key then (i : Int) else rf key (l.drop (i + 1)) (i + 1) := by
 obtain ⟨hi, e⟩ := List.getElem?_eq_some_iff.1 h
 rw [List.drop_eq_getElem_cons hi, e]
 rfl
theorem refFind_spec {m : Mem} {v : V} {l : List Slot} (key : Int) (hv : Sl m v 3 (encs l)) (hl : l.length < 2 ^ 62) : C S n_ref10_find [.agg [v], .int .u64 key] m (fun v m' => v = .int .i64 (rf key l 0) ∧ Grow m m') := by
 refine C_body rfl rfl rfl ?_
 unfold ref10_find
 have hcell := hv.cell
 have hlen : (encs l).length = l.length := by simp
 simp (maxDischargeDepth := 30) only [hcell, hv.len, amL, args0, Nat.reduceEqDiff, reduceCtorEq, ↓reduceIte, Nat.reduceAdd, resultsA, results1, Int.reduceNeg, splice, Nat.reduceLeDiff, part, fillA, fillE, Nat.reduceLT]
 let I := fun (k : Nat) (fr : Frame) (M : Mem) => ∃ i : Nat, i ≤ l.length ∧ k = l.length - i ∧ fr 1 = .int .u64 key ∧ fr 8 = v ∧ fr 9 = .int .i64 l.length ∧ fr 10 = .int .i64 i ∧ rf key (l.drop i) i = rf key l 0 ∧ Grow m M
 refine W_loop I ?_ l.length ?_
 ·rintro k fr M ⟨i, hi, rfl, h1, h12, h13, h14, h5, hg⟩
  unfold ref10_find_l0
  simp (maxDischargeDepth := 30) only [h1, h12, h13, h14, amL, args0, Nat.reduceEqDiff, reduceCtorEq, ↓reduceIte, Nat.reduceAdd, resultsA, results1, Int.reduceNeg, splice, Nat.reduceLeDiff, part, fillA, fillE, Nat.reduceLT]
  first | (refine O_split (by simp only [put_apply, Nat.reduceEqDiff, ↓reduceIte, reduceCtorEq]; rfl) (fun h => ?_) (fun h => ?_) <;> simp only [decide_eq_true_eq, decide_eq_false_iff_not, Decidable.not_not, Bool.and_eq_true, Bool.not_eq_true', Bool.not_eq_false'] at h) | (refine W_split (by simp only [get_t, put_apply, Nat.reduceEqDiff, ↓reduceIte, reduceCtorEq]; rfl) (fun h => ?_) (fun h => ?_) <;> simp only [decide_eq_true_eq, decide_eq_false_iff_not, Decidable.not_not, Bool.and_eq_true, Bool.not_eq_true', Bool.not_eq_false'] at h)
  ·have hil : i < l.length := by omega
   obtain ⟨s, hs⟩ : ∃ s, l[i]? = some s := ⟨_, List.getElem?_eq_getElem hil⟩
   have hsl := hv.grow hg
   rw [rf_drop hs] at h5
   have w1 : IntKind.i64.wrap ((i : Int) + 1) = ((i + 1 : Nat) : Int) := by rw [wrap_i64] <;> omega
   have fin : ∀ fr' : Frame, fr' 1 = .int .u64 key → fr' 8 = v → fr' 9 = .int .i64 l.length → fr' 10 = .int .i64 (i + 1 : Nat) → rf key (l.drop (i + 1)) (i + 1) = rf key l 0 → ∀ M' : Mem, Grow m M' → ∃ j, j < l.length - i ∧ I j fr' M' := fun fr' a1 a2 a3 a4 a5 M' a6 => ⟨l.length - (i + 1), by omega, i + 1, by omega, rfl, a1, a2, a3, a4, a5, a6⟩
   by_cases hst : s.st = 1
   ·by_cases hk : s.key = key
    ·rw [if_pos ⟨hst, hk⟩] at h5
     simp (maxDischargeDepth := 30) only [h, h1, h12, h13, h14, hsl.index (ki := .i64) (n := i) (by omega) (by omega), hsl.load (encs_get hs), enc, hst, hk, amL, args0, Nat.reduceEqDiff, reduceCtorEq, ↓reduceIte, Nat.reduceAdd, resultsA, results1, Int.reduceNeg, splice, Nat.reduceLeDiff, part, fillA, fillE, Nat.reduceLT]
     exact ⟨h5, hg.app⟩
    ·rw [if_neg (fun e => hk e.2)] at h5
     simp (maxDischargeDepth := 30) only [h, h1, h12, h13, h14, hsl.index (ki := .i64) (n := i) (by omega) (by omega), hsl.load (encs_get hs), enc, hst, hk, w1, amL, args0, Nat.reduceEqDiff, reduceCtorEq, ↓reduceIte, Nat.reduceAdd, resultsA, results1, Int.reduceNeg, splice, Nat.reduceLeDiff, part, fillA, fillE, Nat.reduceLT]
     refine fin _ ?_ ?_ ?_ ?_ h5 _ hg.app
     all_goals simp (maxDischargeDepth := 30) only [h1, h12, h13, h14, amL, args0, Nat.reduceEqDiff, reduceCtorEq, ↓reduceIte, Nat.reduceAdd, resultsA, results1, Int.reduceNeg, splice, Nat.reduceLeDiff, part, fillA, fillE, Nat.reduceLT]
   ·rw [if_neg (fun e => hst e.1)] at h5
    simp (maxDischargeDepth := 30) only [h, h1, h12, h13, h14, hsl.index (ki := .i64) (n := i) (by omega) (by omega), hsl.load (encs_get hs), enc, hst, w1, amL, args0, Nat.reduceEqDiff, reduceCtorEq, ↓reduceIte, Nat.reduceAdd, resultsA, results1, Int.reduceNeg, splice, Nat.reduceLeDiff, part, fillA, fillE, Nat.reduceLT]
    refine fin _ ?_ ?_ ?_ ?_ h5 _ hg.app
    all_goals simp (maxDischargeDepth := 30) only [h1, h12, h13, h14, amL, args0, Nat.reduceEqDiff, reduceCtorEq, ↓reduceIte, Nat.reduceAdd, resultsA, results1, Int.reduceNeg, splice, Nat.reduceLeDiff, part, fillA, fillE, Nat.reduceLT]
  ·have : i = l.length := by omega
   subst this
   rw [List.drop_length] at h5
   simp (maxDischargeDepth := 30) only [h, h1, h12, h13, h14, amL, args0, Nat.reduceEqDiff, reduceCtorEq, ↓reduceIte, Nat.reduceAdd, resultsA, results1, Int.reduceNeg, splice, Nat.reduceLeDiff, part, fillA, fillE, Nat.reduceLT]
   exact ⟨by rw [← h5]; rfl, hg⟩
 ·exact ⟨0, by omega, rfl, by simp (maxDischargeDepth := 30) only [amL, args0, Nat.reduceEqDiff, reduceCtorEq, ↓reduceIte, Nat.reduceAdd, resultsA, results1, Int.reduceNeg, splice, Nat.reduceLeDiff, part, fillA, fillE, Nat.reduceLT], by simp (maxDischargeDepth := 30) only [amL, args0, Nat.reduceEqDiff, reduceCtorEq, ↓reduceIte, Nat.reduceAdd, resultsA, results1, Int.reduceNeg, splice, Nat.reduceLeDiff, part, fillA, fillE, Nat.reduceLT], by simp (maxDischargeDepth := 30) only [hlen, amL, args0, Nat.reduceEqDiff, reduceCtorEq, ↓reduceIte, Nat.reduceAdd, resultsA, results1, Int.reduceNeg, splice, Nat.reduceLeDiff, part, fillA, fillE, Nat.reduceLT], by simp (maxDischargeDepth := 30) only [amL, args0, Nat.reduceEqDiff, reduceCtorEq, ↓reduceIte, Nat.reduceAdd, resultsA, results1, Int.reduceNeg, splice, Nat.reduceLeDiff, part, fillA, fillE, Nat.reduceLT]; rfl, rfl, (Grow.refl _).app⟩
/-! ### the document's Check is the program's -/
theorem rf_cases (key : Int) : ∀ (r : List Slot) (i : Nat), (rf key r i = -1 ∧ ∀ s ∈ r, ¬ (s.st = 1 ∧ s.key = key)) ∨ ∃ (j : Nat) (s : Slot), rf key r i = ((i + j : Nat) : Int) ∧ r[j]? = some s ∧ s.st = 1 ∧ s.key = key ∧ ∀ (j' : Nat) (s' : Slot), j' < j → r[j']? = some s' → ¬ (s'.st = 1 ∧ s'.key = key)
 | [], i => .inl ⟨rfl, by simp⟩
 | a :: r, i => by
  simp only [rf]
  by_cases h : a.st = 1 ∧ a.key = key
  ·rw [if_pos h]
   exact .inr ⟨0, a, by simp, rfl, h.1, h.2, fun j' _ hj => absurd hj (Nat.not_lt_zero _)⟩
  ·rw [if_neg h]
   rcases rf_cases key r (i + 1) with ⟨h1, h2⟩ | ⟨j, s, h1, h2, h3, h4, h5⟩
   ·refine .inl ⟨h1, fun s hs => ?_⟩
    rcases List.mem_cons.1 hs with rfl | hs
    ·exact h
    ·exact h2 s hs
   ·refine .inr ⟨j + 1, s, by rw [h1]; congr 1; omega, by simpa using h2, h3, h4, fun j' s' hj hs' => ?_⟩
    cases j' with
    | zero => simp at hs'; subst hs'; exact h
    | succ j' => exact h5 j' s' (by omega) (by simpa using hs')
def dist (l : List Slot) (i : Nat) (key : Int) : Nat := (i + l.length - hk l key) % l.length
def noFree (l : List Slot) (key : Int) (d : Nat) : Prop := ∀ e, e < d → (sl l (hk l key) e).st ≠ 0
theorem dist_at {l : List Slot} {i : Nat} {key : Int} (hp : Pow l.length) (hi : i < l.length) : (hk l key + dist l i key) % l.length = i ∧ dist l i key < l.length := by
 have hh := hk_lt (k := key) hp
 refine ⟨?_, Nat.mod_lt _ (by omega)⟩
 unfold dist
 rw [Nat.add_mod_mod]
 have : hk l key + (i + l.length - hk l key) = i + l.length := by omega
 rw [this, Nat.add_mod_right, Nat.mod_eq_of_lt hi]
def refOk (l : List Slot) (i : Nat) (s : Slot) : Prop := s.st < 3 ∧ (s.st ≠ 1 → s.key = 0 ∧ s.val = 0) ∧ (s.st = 1 → s.key ≠ 0 ∧ rf s.key l 0 = i ∧ noFree l s.key (dist l i s.key))
theorem refValid_iff {l : List Slot} : validB l = true ↔ l.length = 0 ∨ Pow l.length ∧ l.length ≤ 4 * cnt 0 l ∧ ∀ i s, l[i]? = some s → refOk l i s := by
 rw [valid_iff]
 constructor
 ·rintro (h | ⟨h, h4⟩)
  ·exact .inl h
  refine .inr ⟨h.pow, h4, fun i s hi => ?_⟩
  have hok := h.ok i s hi
  have hil := (List.getElem?_eq_some_iff.1 hi).1
  have h3 : s.st < 3 := by
   simp only [okS, Bool.and_eq_true, decide_eq_true_eq] at hok
   exact hok.1
  refine ⟨h3, fun hne => ?_, fun h1 => ?_⟩
  ·simpa [okS, hne, h3] using hok
  ·obtain ⟨hf, hk0⟩ := h.find hi h1
   refine ⟨hk0, ?_, ?_⟩
   ·rcases rf_cases s.key l 0 with ⟨_, hn⟩ | ⟨j, s', e, hj, a, b, _⟩
    ·exact absurd ⟨h1, rfl⟩ (hn s (List.mem_of_getElem? hi))
    ·have := h.uniq hj a hi h1 b
     rw [e, this]
     simp
   ·obtain ⟨d, d1, d2, d3, _⟩ := find_true h.pow (k := s.key) (by rw [hf])
    rw [hf] at d3
    obtain ⟨e1, e2⟩ := dist_at (key := s.key) h.pow hil
    have : d = dist l i s.key := mod_inj (hk_lt (k := s.key) h.pow) d1 e2 (by rw [e1]; exact d3.symm)
    intro e he
    rw [← this] at he
    exact (d2 e he).1
 ·rintro (h | ⟨hp, h4, hall⟩)
  ·exact .inl h
  have hle := hp.le
  refine .inr ⟨⟨hp, by omega, fun i s hi => ?_⟩, h4⟩
  obtain ⟨h3, h0, h1⟩ := hall i s hi
  have hil := (List.getElem?_eq_some_iff.1 hi).1
  by_cases hst : s.st = 1
  ·obtain ⟨hk0, hrf, hnf⟩ := h1 hst
   obtain ⟨e1, e2⟩ := dist_at (key := s.key) hp hil
   have hsl : sl l (hk l s.key) (dist l i s.key) = s := by
    have := sl_get (l := l) (h := hk l s.key) (d := dist l i s.key) (by omega)
    rw [e1, hi] at this
    exact (Option.some.inj this).symm
   have hfd := find_at (k := s.key) hp (by omega) e2 (fun e he => ⟨hnf e he, fun hc => ?_⟩) (by rw [hsl]; exact hst) (by rw [hsl])
   ·rw [e1] at hfd
    simp [okS, hst, hfd, hk0]
   ·have hg := sl_get (l := l) (h := hk l s.key) (d := e) (by omega)
    have hx := (hall _ _ hg).2.2 hc.1
    rw [hc.2, hrf] at hx
    have h2 : i = (hk l s.key + e) % l.length := by omega
    have := mod_inj (hk_lt (k := s.key) hp) (by omega : e < l.length) e2 (by rw [e1]; exact h2.symm)
    omega
  ·have := h0 hst
   simp [okS, hst, this, h3]
theorem refCheck_spec {m : Mem} {v : V} {l : List Slot} (hv : Sl m v 3 (encs l)) (hlt : l.length < 2 ^ 60) : C S n_ref10_Check [.agg [v]] m (fun r m' => r = .int .i64 (if validB l = true then 0 else 2) ∧ Grow m m') := by
 refine C_body rfl rfl rfl ?_
 unfold ref10_Check
 have hlen : (encs l).length = l.length := by simp
 have hcell := hv.cell
 simp (maxDischargeDepth := 30) only [hv.len, hcell, hlen, amL, args0, Nat.reduceEqDiff, reduceCtorEq, ↓reduceIte, Nat.reduceAdd, resultsA, results1, Int.reduceNeg, splice, Nat.reduceLeDiff, part, fillA, fillE, Nat.reduceLT]
 first | (refine O_split (by simp only [put_apply, Nat.reduceEqDiff, ↓reduceIte, reduceCtorEq]; rfl) (fun h0 => ?_) (fun h0 => ?_) <;> simp only [decide_eq_true_eq, decide_eq_false_iff_not, Decidable.not_not, Bool.and_eq_true, Bool.not_eq_true', Bool.not_eq_false'] at h0) | (refine W_split (by simp only [get_t, put_apply, Nat.reduceEqDiff, ↓reduceIte, reduceCtorEq]; rfl) (fun h0 => ?_) (fun h0 => ?_) <;> simp only [decide_eq_true_eq, decide_eq_false_iff_not, Decidable.not_not, Bool.and_eq_true, Bool.not_eq_true', Bool.not_eq_false'] at h0)
 ·have : l.length = 0 := by omega
  simp (maxDischargeDepth := 30) only [validB, this, Bool.true_or, amL, args0, Nat.reduceEqDiff, reduceCtorEq, ↓reduceIte, Nat.reduceAdd, resultsA, results1, Int.reduceNeg, splice, Nat.reduceLeDiff, part, fillA, fillE, Nat.reduceLT]
  exact (Grow.refl _).app
 have h00 : ¬ l.length = 0 := by omega
 simp (maxDischargeDepth := 30) only [amL, args0, Nat.reduceEqDiff, reduceCtorEq, ↓reduceIte, Nat.reduceAdd, resultsA, results1, Int.reduceNeg, splice, Nat.reduceLeDiff, part, fillA, fillE, Nat.reduceLT]
 refine (refHome_spec 0 l.length).mono ?_
 rintro _ _ ⟨rfl, rfl⟩
 by_cases hpow : Pow l.length
 ·have hpl := hpow.le
  have c1 : ¬ ¬ (0 : Int) = 0 := by omega
  simp (maxDischargeDepth := 30) only [aft_mk, hpow, c1, amL, args0, Nat.reduceEqDiff, reduceCtorEq, ↓reduceIte, Nat.reduceAdd, resultsA, results1, Int.reduceNeg, splice, Nat.reduceLeDiff, part, fillA, fillE, Nat.reduceLT]
  refine (refMany_spec 0 hv.app (by omega)).mono ?_
  rintro _ M0 ⟨rfl, hg0⟩
  have hcl := cnt_le 0 l
  have w1 : IntKind.i64.wrap (4 * (cnt 0 l : Int)) = 4 * (cnt 0 l : Int) := by rw [wrap_i64] <;> omega
  simp (maxDischargeDepth := 30) only [aft_mk, w1, hpow, hcell, c1, amL, args0, Nat.reduceEqDiff, reduceCtorEq, ↓reduceIte, Nat.reduceAdd, resultsA, results1, Int.reduceNeg, splice, Nat.reduceLeDiff, part, fillA, fillE, Nat.reduceLT]
  have hgm := ((Grow.refl m).app (g := [Blk.cells true [[v]]])).trans hg0
  have hp0 : M0[m.length]? = some (.cells true [[v]]) := hg0.get (by simp)
  by_cases h4 : l.length ≤ 4 * cnt 0 l
  ·have c4 : ¬ 4 * (cnt 0 l : Int) < l.length := by omega
   simp (maxDischargeDepth := 30) only [c4, hv.len, hlen, load_at0 hp0, amL, args0, Nat.reduceEqDiff, reduceCtorEq, ↓reduceIte, Nat.reduceAdd, resultsA, results1, Int.reduceNeg, splice, Nat.reduceLeDiff, part, fillA, fillE, Nat.reduceLT]
   have hvalid : (validB l = true) ↔ ∀ i s, l[i]? = some s → refOk l i s := by
    rw [refValid_iff]
    exact ⟨fun h => (h.resolve_left h00).2.2, fun h => .inr ⟨hpow, h4, h⟩⟩
   let I := fun (k : Nat) (fr : Frame) (M : Mem) => ∃ i : Nat, i ≤ l.length ∧ k = l.length - i ∧ fr 1 = .ptr m.length 0 0 ∧ fr 3 = .int .i64 l.length ∧ fr 30 = v ∧ fr 31 = .int .i64 l.length ∧ fr 32 = .int .i64 i ∧ (∀ j s, j < i → l[j]? = some s → refOk l j s) ∧ Grow M0 M
   refine W_loop I ?_ l.length ?_
   ·rintro k fr M ⟨i, hi, rfl, f1, f3, f30, f31, f32, hok, hg⟩
    unfold ref10_Check_l0
    simp (maxDischargeDepth := 30) only [f1, f3, f30, f31, f32, amL, args0, Nat.reduceEqDiff, reduceCtorEq, ↓reduceIte, Nat.reduceAdd, resultsA, results1, Int.reduceNeg, splice, Nat.reduceLeDiff, part, fillA, fillE, Nat.reduceLT]
    first | (refine O_split (by simp only [put_apply, Nat.reduceEqDiff, ↓reduceIte, reduceCtorEq]; rfl) (fun h => ?_) (fun h => ?_) <;> simp only [decide_eq_true_eq, decide_eq_false_iff_not, Decidable.not_not, Bool.and_eq_true, Bool.not_eq_true', Bool.not_eq_false'] at h) | (refine W_split (by simp only [get_t, put_apply, Nat.reduceEqDiff, ↓reduceIte, reduceCtorEq]; rfl) (fun h => ?_) (fun h => ?_) <;> simp only [decide_eq_true_eq, decide_eq_false_iff_not, Decidable.not_not, Bool.and_eq_true, Bool.not_eq_true', Bool.not_eq_false'] at h)
    ·have hil : i < l.length := by omega
     obtain ⟨s, hs⟩ : ∃ s, l[i]? = some s := ⟨_, List.getElem?_eq_getElem hil⟩
     have hsl := (hv.grow hgm).grow hg
     have ix := hsl.index (ki := .i64) (n := i) (by omega) (by omega)
     have ld := fun o k => hsl.load (o := o) (k := k) (encs_get hs)
     simp only [Int.toNat_natCast, enc] at ix ld
     have w1 : IntKind.i64.wrap ((i : Int) + 1) = ((i + 1 : Nat) : Int) := by rw [wrap_i64] <;> omega
     have hp1 := hg.get hp0
     have hbad : ¬ refOk l i s → (if validB l = true then (0 : Int) else 2) = 2 := fun hb => by
      rw [if_neg (fun hv => hb (hvalid.1 hv i s hs))]
     have fin : ∀ fr' : Frame, fr' 1 = .ptr m.length 0 0 → fr' 3 = .int .i64 l.length → fr' 30 = v → fr' 31 = .int .i64 l.length → fr' 32 = .int .i64 (i + 1 : Nat) → refOk l i s → ∀ M' : Mem, Grow M0 M' → ∃ j, j < l.length - i ∧ I j fr' M' := fun fr' a1 a3 a30 a31 a32 ho M' a => ⟨l.length - (i + 1), by omega, i + 1, by omega, rfl, a1, a3, a30, a31, a32, fun j s' hj hs' => by
      by_cases e : j = i
      ·subst e; rw [hs] at hs'; cases hs'; exact ho
      ·exact hok j s' (by omega) hs', a⟩
     by_cases b3 : 3 ≤ s.st
     ·have := hbad (fun ho => by have := ho.1; omega)
      simp (maxDischargeDepth := 30) only [h, f1, f3, f30, f31, f32, ix, ld, b3, this, amL, args0, Nat.reduceEqDiff, reduceCtorEq, ↓reduceIte, Nat.reduceAdd, resultsA, results1, Int.reduceNeg, splice, Nat.reduceLeDiff, part, fillA, fillE, Nat.reduceLT]
      exact (hgm.trans hg).app
     by_cases hst : s.st = 1
     ·have b3' : ¬ (3 : Int) ≤ 1 := by omega
      have c11 : ¬ ¬ (1 : Int) = 1 := by omega
      by_cases hk0 : s.key = 0
      ·have := hbad (fun ho => (ho.2.2 hst).1 hk0)
       simp (maxDischargeDepth := 30) only [h, f1, f3, f30, f31, f32, ix, ld, hst, b3', c11, hk0, this, amL, args0, Nat.reduceEqDiff, reduceCtorEq, ↓reduceIte, Nat.reduceAdd, resultsA, results1, Int.reduceNeg, splice, Nat.reduceLeDiff, part, fillA, fillE, Nat.reduceLT]
       exact (hgm.trans hg).app
      ·simp (maxDischargeDepth := 30) only [h, f1, f3, f30, f31, f32, ix, ld, hst, b3', c11, hk0, load_at0 hp1, amL, args0, Nat.reduceEqDiff, reduceCtorEq, ↓reduceIte, Nat.reduceAdd, resultsA, results1, Int.reduceNeg, splice, Nat.reduceLeDiff, part, fillA, fillE, Nat.reduceLT]
       refine (refFind_spec s.key hsl.app (by omega)).mono ?_
       rintro _ M2 ⟨rfl, hg2⟩
       by_cases hrf : rf s.key l 0 = i
       ·have c12 : ¬ ¬ (i : Int) = i := by omega
        have hp2 : M2[M.length]? = some (.cells true [[V.int .u8 1, V.int .u64 s.key, V.int .u64 s.val]]) := hg2.get (by simp)
        simp (maxDischargeDepth := 30) only [aft_mk, hrf, c12, load_at0 hp2, f3, amL, args0, Nat.reduceEqDiff, reduceCtorEq, ↓reduceIte, Nat.reduceAdd, resultsA, results1, Int.reduceNeg, splice, Nat.reduceLeDiff, part, fillA, fillE, Nat.reduceLT]
        refine (refHome_spec s.key l.length).mono ?_
        rintro _ _ ⟨rfl, rfl⟩
        simp (maxDischargeDepth := 30) only [aft_mk, hpow, amL, args0, Nat.reduceEqDiff, reduceCtorEq, ↓reduceIte, Nat.reduceAdd, resultsA, results1, Int.reduceNeg, splice, Nat.reduceLeDiff, part, fillA, fillE, Nat.reduceLT]
        obtain ⟨e1, e2⟩ := dist_at (key := s.key) hpow hil
        have hhk := hk_lt (k := s.key) hpow
        have hhome : homeI s.key l.length = ((hk l s.key : Nat) : Int) := by
         have := (home_range (key := s.key) hpow).1
         unfold hk
         omega
        have hgM2 : Grow M0 M2 := hg.app.trans hg2
        have hvM2 := (hv.grow hgm).grow hgM2
        have hpM2 := hgM2.get hp0
        let J := fun (k : Nat) (fr : Frame) (M : Mem) => ∃ d : Nat, d ≤ dist l i s.key ∧ k = dist l i s.key - d ∧ fr 1 = .ptr m.length 0 0 ∧ fr 3 = .int .i64 l.length ∧ fr 6 = .int .i64 i ∧ fr 8 = .int .i64 ((hk l s.key + d) % l.length : Nat) ∧ fr 30 = v ∧ fr 31 = .int .i64 l.length ∧ fr 32 = .int .i64 i ∧ noFree l s.key d ∧ M = M2
        refine W_loop J ?_ (dist l i s.key) ?_
        ·rintro k fr M ⟨d, hd, rfl, g1, g3, g6, g8, g30, g31, g32, hnf, rfl⟩
         have hml : (hk l s.key + d) % l.length < l.length := Nat.mod_lt _ (by omega)
         unfold ref10_Check_l1
         by_cases hat : (hk l s.key + d) % l.length = i
         ·have c13 : ¬ ¬ (((hk l s.key + d) % l.length : Nat) : Int) = i := by omega
          have hdd : d = dist l i s.key := mod_inj hhk (by omega) e2 (by rw [e1]; exact hat)
          subst hdd
          simp (maxDischargeDepth := 30) only [g1, g3, g6, g8, g30, g31, g32, c13, w1, amL, args0, Nat.reduceEqDiff, reduceCtorEq, ↓reduceIte, Nat.reduceAdd, resultsA, results1, Int.reduceNeg, splice, Nat.reduceLeDiff, part, fillA, fillE, Nat.reduceLT]
          refine fin _ ?_ ?_ ?_ ?_ ?_ ⟨by omega, fun hx => absurd hst hx, fun _ => ⟨hk0, hrf, hnf⟩⟩ _ hgM2
          all_goals simp (maxDischargeDepth := 30) only [g1, g3, g30, g31, g32, amL, args0, Nat.reduceEqDiff, reduceCtorEq, ↓reduceIte, Nat.reduceAdd, resultsA, results1, Int.reduceNeg, splice, Nat.reduceLeDiff, part, fillA, fillE, Nat.reduceLT]
         ·have c13 : ¬ (((hk l s.key + d) % l.length : Nat) : Int) = i := by omega
          have hdlt : d < dist l i s.key := by
           rcases Nat.lt_or_ge d (dist l i s.key) with h | h
           ·exact h
           ·have : d = dist l i s.key := by omega
            rw [this, e1] at hat
            exact absurd rfl hat
          have hgd := sl_get (l := l) (h := hk l s.key) (d := d) (by omega)
          have ix3 := hvM2.index (ki := .i64) (n := (((hk l s.key + d) % l.length : Nat) : Int)) (by omega) (by omega)
          have ld3 := fun o k => hvM2.load (o := o) (k := k) (encs_get hgd)
          simp only [Int.toNat_natCast, enc] at ix3 ld3
          have c14 : ¬ (l.length : Int) = 0 := by omega
          have w5 : IntKind.i64.wrap ((((hk l s.key + d) % l.length : Nat) : Int) + 1) = (((hk l s.key + d) % l.length + 1 : Nat) : Int) := by rw [wrap_i64] <;> omega
          have w6 : (((hk l s.key + d) % l.length + 1 : Nat) : Int).tmod l.length = (((hk l s.key + (d + 1)) % l.length : Nat) : Int) := by
           rw [Int.tmod_eq_emod_of_nonneg (by omega), ← Int.natCast_emod, Nat.mod_add_mod]
           rfl
          by_cases hfr : (sl l (hk l s.key) d).st = 0
          ·have := hbad (fun ho => (ho.2.2 hst).2.2 d hdlt hfr)
           simp (maxDischargeDepth := 30) only [g1, g3, g6, g8, g30, g31, g32, c13, load_at0 hpM2, ix3, ld3, hfr, this, amL, args0, Nat.reduceEqDiff, reduceCtorEq, ↓reduceIte, Nat.reduceAdd, resultsA, results1, Int.reduceNeg, splice, Nat.reduceLeDiff, part, fillA, fillE, Nat.reduceLT]
           exact hgm.trans hgM2
          ·simp (maxDischargeDepth := 30) only [g1, g3, g6, g8, g30, g31, g32, c13, load_at0 hpM2, ix3, ld3, hfr, c14, w5, w6, amL, args0, Nat.reduceEqDiff, reduceCtorEq, ↓reduceIte, Nat.reduceAdd, resultsA, results1, Int.reduceNeg, splice, Nat.reduceLeDiff, part, fillA, fillE, Nat.reduceLT]
           refine ⟨_, ?_, d + 1, by omega, rfl, ?_, ?_, ?_, ?_, ?_, ?_, ?_, ?_, rfl⟩
           ·omega
           ·simp (maxDischargeDepth := 30) only [g1, amL, args0, Nat.reduceEqDiff, reduceCtorEq, ↓reduceIte, Nat.reduceAdd, resultsA, results1, Int.reduceNeg, splice, Nat.reduceLeDiff, part, fillA, fillE, Nat.reduceLT]
           ·simp (maxDischargeDepth := 30) only [g3, amL, args0, Nat.reduceEqDiff, reduceCtorEq, ↓reduceIte, Nat.reduceAdd, resultsA, results1, Int.reduceNeg, splice, Nat.reduceLeDiff, part, fillA, fillE, Nat.reduceLT]
           ·simp (maxDischargeDepth := 30) only [g6, amL, args0, Nat.reduceEqDiff, reduceCtorEq, ↓reduceIte, Nat.reduceAdd, resultsA, results1, Int.reduceNeg, splice, Nat.reduceLeDiff, part, fillA, fillE, Nat.reduceLT]
           ·simp (maxDischargeDepth := 30) only [amL, args0, Nat.reduceEqDiff, reduceCtorEq, ↓reduceIte, Nat.reduceAdd, resultsA, results1, Int.reduceNeg, splice, Nat.reduceLeDiff, part, fillA, fillE, Nat.reduceLT]
           ·simp (maxDischargeDepth := 30) only [g30, amL, args0, Nat.reduceEqDiff, reduceCtorEq, ↓reduceIte, Nat.reduceAdd, resultsA, results1, Int.reduceNeg, splice, Nat.reduceLeDiff, part, fillA, fillE, Nat.reduceLT]
           ·simp (maxDischargeDepth := 30) only [g31, amL, args0, Nat.reduceEqDiff, reduceCtorEq, ↓reduceIte, Nat.reduceAdd, resultsA, results1, Int.reduceNeg, splice, Nat.reduceLeDiff, part, fillA, fillE, Nat.reduceLT]
           ·simp (maxDischargeDepth := 30) only [g32, amL, args0, Nat.reduceEqDiff, reduceCtorEq, ↓reduceIte, Nat.reduceAdd, resultsA, results1, Int.reduceNeg, splice, Nat.reduceLeDiff, part, fillA, fillE, Nat.reduceLT]
           ·intro e he
            by_cases hed : e = d
            ·subst hed; exact hfr
            ·exact hnf e (by omega)
        ·refine ⟨0, Nat.zero_le _, rfl, by simp (maxDischargeDepth := 30) only [f1, amL, args0, Nat.reduceEqDiff, reduceCtorEq, ↓reduceIte, Nat.reduceAdd, resultsA, results1, Int.reduceNeg, splice, Nat.reduceLeDiff, part, fillA, fillE, Nat.reduceLT], by simp (maxDischargeDepth := 30) only [f3, amL, args0, Nat.reduceEqDiff, reduceCtorEq, ↓reduceIte, Nat.reduceAdd, resultsA, results1, Int.reduceNeg, splice, Nat.reduceLeDiff, part, fillA, fillE, Nat.reduceLT], by simp (maxDischargeDepth := 30) only [amL, args0, Nat.reduceEqDiff, reduceCtorEq, ↓reduceIte, Nat.reduceAdd, resultsA, results1, Int.reduceNeg, splice, Nat.reduceLeDiff, part, fillA, fillE, Nat.reduceLT], ?_, by simp (maxDischargeDepth := 30) only [f30, amL, args0, Nat.reduceEqDiff, reduceCtorEq, ↓reduceIte, Nat.reduceAdd, resultsA, results1, Int.reduceNeg, splice, Nat.reduceLeDiff, part, fillA, fillE, Nat.reduceLT], by simp (maxDischargeDepth := 30) only [f31, amL, args0, Nat.reduceEqDiff, reduceCtorEq, ↓reduceIte, Nat.reduceAdd, resultsA, results1, Int.reduceNeg, splice, Nat.reduceLeDiff, part, fillA, fillE, Nat.reduceLT], by simp (maxDischargeDepth := 30) only [f32, amL, args0, Nat.reduceEqDiff, reduceCtorEq, ↓reduceIte, Nat.reduceAdd, resultsA, results1, Int.reduceNeg, splice, Nat.reduceLeDiff, part, fillA, fillE, Nat.reduceLT], fun e he => absurd he (Nat.not_lt_zero _), rfl⟩
         simp (maxDischargeDepth := 30) only [hhome, amL, args0, Nat.reduceEqDiff, reduceCtorEq, ↓reduceIte, Nat.reduceAdd, resultsA, results1, Int.reduceNeg, splice, Nat.reduceLeDiff, part, fillA, fillE, Nat.reduceLT]
         rw [Nat.mod_eq_of_lt hhk]
       ·have := hbad (fun ho => hrf (ho.2.2 hst).2.1)
        simp (maxDischargeDepth := 30) only [aft_mk, hrf, this, amL, args0, Nat.reduceEqDiff, reduceCtorEq, ↓reduceIte, Nat.reduceAdd, resultsA, results1, Int.reduceNeg, splice, Nat.reduceLeDiff, part, fillA, fillE, Nat.reduceLT]
        exact (hgm.trans hg).app.trans hg2
     ·by_cases hz : s.key = 0 ∧ s.val = 0
      ·obtain ⟨z1, z2⟩ := hz
       have c00 : ¬ ¬ (0 : Int) = 0 := by omega
       simp (maxDischargeDepth := 30) only [h, f1, f3, f30, f31, f32, ix, ld, hst, b3, z1, z2, c00, w1, amL, args0, Nat.reduceEqDiff, reduceCtorEq, ↓reduceIte, Nat.reduceAdd, resultsA, results1, Int.reduceNeg, splice, Nat.reduceLeDiff, part, fillA, fillE, Nat.reduceLT]
       refine fin _ ?_ ?_ ?_ ?_ ?_ ⟨by omega, fun _ => ⟨z1, z2⟩, fun hx => absurd hx hst⟩ _ hg.app
       all_goals simp (maxDischargeDepth := 30) only [f1, f3, f30, f31, f32, amL, args0, Nat.reduceEqDiff, reduceCtorEq, ↓reduceIte, Nat.reduceAdd, resultsA, results1, Int.reduceNeg, splice, Nat.reduceLeDiff, part, fillA, fillE, Nat.reduceLT]
      ·have := hbad (fun ho => hz (ho.2.1 hst))
       by_cases z1 : s.key = 0
       ·have z2 : ¬ s.val = 0 := fun e => hz ⟨z1, e⟩
        have c00 : ¬ ¬ (0 : Int) = 0 := by omega
        simp (maxDischargeDepth := 30) only [h, f1, f3, f30, f31, f32, ix, ld, hst, b3, z1, z2, c00, this, amL, args0, Nat.reduceEqDiff, reduceCtorEq, ↓reduceIte, Nat.reduceAdd, resultsA, results1, Int.reduceNeg, splice, Nat.reduceLeDiff, part, fillA, fillE, Nat.reduceLT]
        exact (hgm.trans hg).app
       ·simp (maxDischargeDepth := 30) only [h, f1, f3, f30, f31, f32, ix, ld, hst, b3, z1, this, amL, args0, Nat.reduceEqDiff, reduceCtorEq, ↓reduceIte, Nat.reduceAdd, resultsA, results1, Int.reduceNeg, splice, Nat.reduceLeDiff, part, fillA, fillE, Nat.reduceLT]
        exact (hgm.trans hg).app
    ·have : i = l.length := by omega
     subst this
     have hvv : validB l = true := hvalid.2 fun j s hj => hok j s (List.getElem?_eq_some_iff.1 hj).1 hj
     simp (maxDischargeDepth := 30) only [h, f1, f3, f30, f31, f32, hvv, amL, args0, Nat.reduceEqDiff, reduceCtorEq, ↓reduceIte, Nat.reduceAdd, resultsA, results1, Int.reduceNeg, splice, Nat.reduceLeDiff, part, fillA, fillE, Nat.reduceLT]
     exact hgm.trans hg
   ·exact ⟨0, by omega, rfl, by simp (maxDischargeDepth := 30) only [amL, args0, Nat.reduceEqDiff, reduceCtorEq, ↓reduceIte, Nat.reduceAdd, resultsA, results1, Int.reduceNeg, splice, Nat.reduceLeDiff, part, fillA, fillE, Nat.reduceLT], by simp (maxDischargeDepth := 30) only [amL, args0, Nat.reduceEqDiff, reduceCtorEq, ↓reduceIte, Nat.reduceAdd, resultsA, results1, Int.reduceNeg, splice, Nat.reduceLeDiff, part, fillA, fillE, Nat.reduceLT], by simp (maxDischargeDepth := 30) only [amL, args0, Nat.reduceEqDiff, reduceCtorEq, ↓reduceIte, Nat.reduceAdd, resultsA, results1, Int.reduceNeg, splice, Nat.reduceLeDiff, part, fillA, fillE, Nat.reduceLT], by simp (maxDischargeDepth := 30) only [amL, args0, Nat.reduceEqDiff, reduceCtorEq, ↓reduceIte, Nat.reduceAdd, resultsA, results1, Int.reduceNeg, splice, Nat.reduceLeDiff, part, fillA, fillE, Nat.reduceLT], by simp (maxDischargeDepth := 30) only [amL, args0, Nat.reduceEqDiff, reduceCtorEq, ↓reduceIte, Nat.reduceAdd, resultsA, results1, Int.reduceNeg, splice, Nat.reduceLeDiff, part, fillA, fillE, Nat.reduceLT]; rfl, fun j s hj => absurd hj (Nat.not_lt_zero _), Grow.refl _⟩
  ·have c4 : 4 * (cnt 0 l : Int) < l.length := by omega
   have : (if validB l = true then (0 : Int) else 2) = 2 := by
    rw [if_neg]
    rw [refValid_iff]
    rintro (h | h)
    ·exact h00 h
    ·exact h4 h.2.1
   simp (maxDischargeDepth := 30) only [c4, this, amL, args0, Nat.reduceEqDiff, reduceCtorEq, ↓reduceIte, Nat.reduceAdd, resultsA, results1, Int.reduceNeg, splice, Nat.reduceLeDiff, part, fillA, fillE, Nat.reduceLT]
   exact hgm
 ·have c1 : ¬ (1 : Int) = 0 := by omega
  have : (if validB l = true then (0 : Int) else 2) = 2 := by
   rw [if_neg]
   rw [refValid_iff]
   rintro (h | h)
   ·exact h00 h
   ·exact hpow h.1
  simp (maxDischargeDepth := 30) only [aft_mk, hpow, c1, this, amL, args0, Nat.reduceEqDiff, reduceCtorEq, ↓reduceIte, Nat.reduceAdd, resultsA, results1, Int.reduceNeg, splice, Nat.reduceLeDiff, part, fillA, fillE, Nat.reduceLT]
  exact (Grow.refl _).app
end Go.AM.G.E
