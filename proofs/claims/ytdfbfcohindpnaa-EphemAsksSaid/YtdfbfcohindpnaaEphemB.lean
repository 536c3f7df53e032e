/- Part of the proof: contracts of functions of the given program on an abstract machine. -/
import Derived.Test.YtdfbfcohindpnaaEphemA
set_option linter.unusedVariables false
set_option linter.unusedSimpArgs false
set_option maxRecDepth 100000
namespace Go.AM.G
open Go Go.AM
def findF (l : List Slot) (key : Int) : Nat → Nat → Option Nat → Nat × Bool
  | 0, i, _ => (i, false)
  | f + 1, i, g => match l[i]? with
    | none => (i, false)
    | some s => if s.st = 0 then (g.getD i, false) else if s.st = 1 ∧ s.key = key then (i, true) else findF l key f ((i + 1) % l.length) (if s.st = 2 ∧ g = none then some i else g)
def findL (l : List Slot) (key : Int) : Nat × Bool := if l.length = 0 then (0, false) else findF l key l.length (homeI key l.length).toNat none
theorem home_range {key n : Int} (h : Pow n) : 0 ≤ homeI key n ∧ homeI key n < n := by
  have h0 : ∀ x : Int, 0 ≤ IntKind.u64.wrap x ∧ IntKind.u64.wrap x < 18446744073709551616 := fun x => by rw [IntKind.wrap_u64]; omega
  obtain ⟨a, b⟩ := h0 (key * 11400714819323198485)
  unfold homeI
  have e : ∀ k : Nat, (2 : Int) ^ k ∣ 2 ^ k := fun k => Int.dvd_refl _
  rcases h with rfl | rfl | rfl | rfl
  · rw [show (65 - bitLen 8).toNat = 61 from rfl, Int.fdiv_eq_ediv_of_nonneg _ (by decide), wrap_i64] <;> omega
  · rw [show (65 - bitLen 16).toNat = 60 from rfl, Int.fdiv_eq_ediv_of_nonneg _ (by decide), wrap_i64] <;> omega
  · rw [show (65 - bitLen 32).toNat = 59 from rfl, Int.fdiv_eq_ediv_of_nonneg _ (by decide), wrap_i64] <;> omega
  · rw [show (65 - bitLen 64).toNat = 58 from rfl, Int.fdiv_eq_ediv_of_nonneg _ (by decide), wrap_i64] <;> omega
def goneI : Option Nat → Int
  | none => -1
  | some i => i
theorem Pow.le {n : Int} (h : Pow n) : 8 ≤ n ∧ n ≤ 64 := by unfold Pow at h; omega
theorem exists_free {l : List Slot} (h : 0 < cnt 0 l) : ∃ (j : Nat) (s : Slot), l[j]? = some s ∧ s.st = 0 := by
  unfold cnt at h
  obtain ⟨s, hs, h0⟩ := List.countP_pos_iff.1 h
  obtain ⟨j, hj⟩ := List.getElem?_of_mem hs
  exact ⟨j, s, hj, by simpa using h0⟩
theorem find_spec {m : Mem} {p v : V} {l : List Slot} (key : Int) (hp0 : loadV m none p = some v) (hpp : asPtr 0 p = some p) (hv : Sl m v 3 (encs l)) (hl : l.length = 0 ∨ Pow l.length ∧ 0 < cnt 0 l) : C S n_ephem_table_find [p, .int .u64 key] m (fun v m' => v = .tup [.int .i64 (findL l key).1, .bool (findL l key).2] ∧ Grow m m') := by
  refine C_body rfl rfl rfl ?_
  unfold ephem_table_find
  have hp := fun g => loadV_some (g := g) hp0
  have hlen : (encs l).length = l.length := by simp
  simp (maxDischargeDepth := 30) only [hp0, hpp, hv.len, hlen, amL, args0, Nat.reduceEqDiff, reduceCtorEq, ↓reduceIte, Nat.reduceAdd, resultsA, results1, Int.reduceNeg, splice, Nat.reduceLeDiff, part, fillA, fillE, Nat.reduceLT]
  first | (refine O_split (by simp only [put_apply, Nat.reduceEqDiff, ↓reduceIte, reduceCtorEq]; rfl) (fun h0 => ?_) (fun h0 => ?_) <;> simp only [decide_eq_true_eq, decide_eq_false_iff_not, Decidable.not_not, Bool.and_eq_true, Bool.not_eq_true', Bool.not_eq_false'] at h0) | (refine W_split (by simp only [get_t, put_apply, Nat.reduceEqDiff, ↓reduceIte, reduceCtorEq]; rfl) (fun h0 => ?_) (fun h0 => ?_) <;> simp only [decide_eq_true_eq, decide_eq_false_iff_not, Decidable.not_not, Bool.and_eq_true, Bool.not_eq_true', Bool.not_eq_false'] at h0)
  · have h00 : l.length = 0 := by omega
    simp (maxDischargeDepth := 30) only [findL, h00, amL, args0, Nat.reduceEqDiff, reduceCtorEq, ↓reduceIte, Nat.reduceAdd, resultsA, results1, Int.reduceNeg, splice, Nat.reduceLeDiff, part, fillA, fillE, Nat.reduceLT]
    exact ⟨rfl, Grow.refl _⟩
  have h00 : ¬ l.length = 0 := by omega
  obtain ⟨hpow, hfree⟩ : Pow l.length ∧ 0 < cnt 0 l := by rcases hl with h | h; omega; exact h
  have hn := hpow.le
  obtain ⟨hh0, hh1⟩ := home_range (key := key) hpow
  simp (maxDischargeDepth := 30) only [amL, args0, Nat.reduceEqDiff, reduceCtorEq, ↓reduceIte, Nat.reduceAdd, resultsA, results1, Int.reduceNeg, splice, Nat.reduceLeDiff, part, fillA, fillE, Nat.reduceLT]
  refine (home_spec key l.length m hpow).mono ?_
  rintro _ _ ⟨rfl, rfl⟩
  simp (maxDischargeDepth := 30) only [aft_mk, amL, args0, Nat.reduceEqDiff, reduceCtorEq, ↓reduceIte, Nat.reduceAdd, resultsA, results1, Int.reduceNeg, splice, Nat.reduceLeDiff, part, fillA, fillE, Nat.reduceLT]
  obtain ⟨j0, s0, hj0, hs0⟩ := exists_free hfree
  have hjl := (List.getElem?_eq_some_iff.1 hj0).1
  let I := fun (k : Nat) (fr : Frame) (M : Mem) => ∃ (i f : Nat) (g : Option Nat), i < l.length ∧ (i + k) % l.length = j0 ∧ k < f ∧ fr 0 = p ∧ fr 1 = .int .u64 key ∧ fr 6 = .int .i64 l.length ∧ fr 8 = .int .i64 i ∧ fr 7 = .int .i64 (goneI g) ∧ findF l key f i g = findL l key ∧ Grow m M
  have hM : ∀ {M}, Grow m M → loadV M none p = some v := by rintro _ ⟨g, rfl⟩; exact hp g
  refine W_loop I ?_ ((j0 + l.length - (homeI key l.length).toNat) % l.length) ?_
  · rintro k fr M ⟨i, f, g, hi, hk, hf, h0, h1, h6, h8, h7, hT, hg⟩
    obtain ⟨s, hs⟩ : ∃ s, l[i]? = some s := ⟨_, List.getElem?_eq_getElem hi⟩
    have hsl := hv.grow hg
    obtain ⟨f, rfl⟩ : ∃ f', f = f' + 1 := ⟨f - 1, by omega⟩
    simp only [findF, hs] at hT
    unfold ephem_table_find_l0
    have ix := hsl.index (ki := .i64) (n := i) (by omega) (by omega)
    have ld := fun o k => hsl.load (o := o) (k := k) (encs_get hs)
    simp only [Int.toNat_natCast, enc] at ix ld
    have w1 : IntKind.i64.wrap ((i : Int) + 1) = ((i + 1 : Nat) : Int) := by rw [wrap_i64] <;> omega
    have w2 : ((i + 1 : Nat) : Int).tmod l.length = (((i + 1) % l.length : Nat) : Int) := by rw [Int.tmod_eq_emod_of_nonneg (by omega)]; omega
    have w3 : ¬ ((l.length : Int) = 0) := by omega
    by_cases hz : s.st = 0
    · rw [if_pos hz] at hT
      have hT1 : (findL l key).1 = g.getD i := by rw [← hT]
      have hT2 : (findL l key).2 = false := by rw [← hT]
      cases g with
      | none =>
        simp only [goneI] at h7
        have c : ¬ ((0 : Int) ≤ -1) := by omega
        simp (maxDischargeDepth := 30) only [h0, h1, h6, h8, h7, hpp, hM hg, ix, ld, hz, c, hT1, hT2, Option.getD_none, amL, args0, Nat.reduceEqDiff, reduceCtorEq, ↓reduceIte, Nat.reduceAdd, resultsA, results1, Int.reduceNeg, splice, Nat.reduceLeDiff, part, fillA, fillE, Nat.reduceLT]
        exact hg
      | some y =>
        simp only [goneI] at h7
        have c : (0 : Int) ≤ y := by omega
        simp (maxDischargeDepth := 30) only [h0, h1, h6, h8, h7, hpp, hM hg, ix, ld, hz, c, hT1, hT2, Option.getD_some, amL, args0, Nat.reduceEqDiff, reduceCtorEq, ↓reduceIte, Nat.reduceAdd, resultsA, results1, Int.reduceNeg, splice, Nat.reduceLeDiff, part, fillA, fillE, Nat.reduceLT]
        exact hg
    rw [if_neg hz] at hT
    by_cases h1k : s.st = 1 ∧ s.key = key
    · rw [if_pos h1k] at hT
      obtain ⟨h1s, hk1⟩ := h1k
      have hT1 : (findL l key).1 = i := by rw [← hT]
      have hT2 : (findL l key).2 = true := by rw [← hT]
      have c : ¬ ((1 : Int) = 0) := by omega
      simp (maxDischargeDepth := 30) only [h0, h1, h6, h8, h7, hpp, hM hg, ix, ld, h1s, hk1, c, hT1, hT2, amL, args0, Nat.reduceEqDiff, reduceCtorEq, ↓reduceIte, Nat.reduceAdd, resultsA, results1, Int.reduceNeg, splice, Nat.reduceLeDiff, part, fillA, fillE, Nat.reduceLT]
      exact hg.app
    rw [if_neg h1k] at hT
    have hk1 : 1 ≤ k := by
      rcases Nat.eq_zero_or_pos k with h | h
      · subst h
        rw [Nat.add_zero, Nat.mod_eq_of_lt hi] at hk
        subst hk
        rw [hj0] at hs
        cases hs
        exact absurd hs0 hz
      · exact h
    have hnext : (i + 1) % l.length < l.length := Nat.mod_lt _ (by omega)
    have hnk : ((i + 1) % l.length + (k - 1)) % l.length = j0 := by
      rw [Nat.mod_add_mod, ← hk]; congr 1; omega
    have fin : ∀ (fr' : Frame) (g' : Option Nat), fr' 0 = p → fr' 1 = .int .u64 key → fr' 6 = .int .i64 l.length → fr' 8 = .int .i64 ((i + 1) % l.length : Nat) → fr' 7 = .int .i64 (goneI g') → findF l key f ((i + 1) % l.length) g' = findL l key → ∀ M' : Mem, Grow m M' → ∃ j, j < k ∧ I j fr' M' := fun fr' g' a0 a1 a6 a8 a7 aT M' hM' => ⟨k - 1, by omega, (i + 1) % l.length, f, g', hnext, hnk, by omega, a0, a1, a6, a8, a7, aT, hM'⟩
    by_cases h1s : s.st = 1
    · have hkk : ¬ s.key = key := fun e => h1k ⟨h1s, e⟩
      have c : ¬ ((1 : Int) = 0) := by omega
      have c2 : ¬ ((1 : Int) = 2) := by omega
      rw [if_neg (by rw [h1s]; omega)] at hT
      simp (maxDischargeDepth := 30) only [h0, h1, h6, h8, h7, hpp, hM hg, ix, ld, h1s, hkk, c, c2, w1, w2, w3, amL, args0, Nat.reduceEqDiff, reduceCtorEq, ↓reduceIte, Nat.reduceAdd, resultsA, results1, Int.reduceNeg, splice, Nat.reduceLeDiff, part, fillA, fillE, Nat.reduceLT]
      refine fin _ g ?_ ?_ ?_ ?_ ?_ hT _ hg.app
      all_goals simp (maxDischargeDepth := 30) only [h0, h1, h6, h8, h7, amL, args0, Nat.reduceEqDiff, reduceCtorEq, ↓reduceIte, Nat.reduceAdd, resultsA, results1, Int.reduceNeg, splice, Nat.reduceLeDiff, part, fillA, fillE, Nat.reduceLT]
    by_cases h2s : s.st = 2
    · have c : ¬ ((2 : Int) = 0) := by omega
      have c2 : ¬ ((2 : Int) = 1) := by omega
      cases g with
      | none =>
        rw [if_pos ⟨h2s, rfl⟩] at hT
        simp only [goneI] at h7
        have c3 : (-1 : Int) < 0 := by omega
        simp (maxDischargeDepth := 30) only [h0, h1, h6, h8, h7, hpp, hM hg, ix, ld, h2s, c, c2, c3, w1, w2, w3, amL, args0, Nat.reduceEqDiff, reduceCtorEq, ↓reduceIte, Nat.reduceAdd, resultsA, results1, Int.reduceNeg, splice, Nat.reduceLeDiff, part, fillA, fillE, Nat.reduceLT]
        refine fin _ (some i) ?_ ?_ ?_ ?_ ?_ hT _ hg.app
        all_goals simp (maxDischargeDepth := 30) only [h0, h1, h6, h8, h7, amL, args0, Nat.reduceEqDiff, reduceCtorEq, ↓reduceIte, Nat.reduceAdd, resultsA, results1, Int.reduceNeg, splice, Nat.reduceLeDiff, part, fillA, fillE, Nat.reduceLT]
        rfl
      | some y =>
        rw [if_neg (by simp)] at hT
        simp only [goneI] at h7
        have c3 : ¬ ((y : Int) < 0) := by omega
        simp (maxDischargeDepth := 30) only [h0, h1, h6, h8, h7, hpp, hM hg, ix, ld, h2s, c, c2, c3, w1, w2, w3, amL, args0, Nat.reduceEqDiff, reduceCtorEq, ↓reduceIte, Nat.reduceAdd, resultsA, results1, Int.reduceNeg, splice, Nat.reduceLeDiff, part, fillA, fillE, Nat.reduceLT]
        refine fin _ (some y) ?_ ?_ ?_ ?_ ?_ hT _ hg.app
        all_goals simp (maxDischargeDepth := 30) only [h0, h1, h6, h8, h7, amL, args0, Nat.reduceEqDiff, reduceCtorEq, ↓reduceIte, Nat.reduceAdd, resultsA, results1, Int.reduceNeg, splice, Nat.reduceLeDiff, part, fillA, fillE, Nat.reduceLT]
        rfl
    · rw [if_neg (fun e => h2s e.1)] at hT
      simp (maxDischargeDepth := 30) only [h0, h1, h6, h8, h7, hpp, hM hg, ix, ld, hz, h1s, h2s, w1, w2, w3, amL, args0, Nat.reduceEqDiff, reduceCtorEq, ↓reduceIte, Nat.reduceAdd, resultsA, results1, Int.reduceNeg, splice, Nat.reduceLeDiff, part, fillA, fillE, Nat.reduceLT]
      refine fin _ g ?_ ?_ ?_ ?_ ?_ hT _ hg.app
      all_goals simp (maxDischargeDepth := 30) only [h0, h1, h6, h8, h7, amL, args0, Nat.reduceEqDiff, reduceCtorEq, ↓reduceIte, Nat.reduceAdd, resultsA, results1, Int.reduceNeg, splice, Nat.reduceLeDiff, part, fillA, fillE, Nat.reduceLT]
  · refine ⟨(homeI key l.length).toNat, l.length, none, by omega, ?_, Nat.mod_lt _ (by omega), by simp (maxDischargeDepth := 30) only [amL, args0, Nat.reduceEqDiff, reduceCtorEq, ↓reduceIte, Nat.reduceAdd, resultsA, results1, Int.reduceNeg, splice, Nat.reduceLeDiff, part, fillA, fillE, Nat.reduceLT], by simp (maxDischargeDepth := 30) only [amL, args0, Nat.reduceEqDiff, reduceCtorEq, ↓reduceIte, Nat.reduceAdd, resultsA, results1, Int.reduceNeg, splice, Nat.reduceLeDiff, part, fillA, fillE, Nat.reduceLT], by simp (maxDischargeDepth := 30) only [amL, args0, Nat.reduceEqDiff, reduceCtorEq, ↓reduceIte, Nat.reduceAdd, resultsA, results1, Int.reduceNeg, splice, Nat.reduceLeDiff, part, fillA, fillE, Nat.reduceLT], ?_, by simp (maxDischargeDepth := 30) only [amL, args0, Nat.reduceEqDiff, reduceCtorEq, ↓reduceIte, Nat.reduceAdd, resultsA, results1, Int.reduceNeg, splice, Nat.reduceLeDiff, part, fillA, fillE, Nat.reduceLT]; rfl, ?_, Grow.refl _⟩
    · have h1 : (homeI key l.length).toNat < l.length := by omega
      rw [Nat.add_mod_mod]
      have : (homeI key l.length).toNat + (j0 + l.length - (homeI key l.length).toNat) = j0 + l.length := by omega
      rw [this, Nat.add_mod_right, Nat.mod_eq_of_lt hjl]
    · simp (maxDischargeDepth := 30) only [amL, args0, Nat.reduceEqDiff, reduceCtorEq, ↓reduceIte, Nat.reduceAdd, resultsA, results1, Int.reduceNeg, splice, Nat.reduceLeDiff, part, fillA, fillE, Nat.reduceLT]
      omega
    · simp only [findL, if_neg h00]
end Go.AM.G
