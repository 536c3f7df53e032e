/- Part of the proof: contracts of functions of the given program on an abstract machine. -/
import Derived.Test.YtnpefpiggklimaaGraphX
set_option linter.unusedVariables false
set_option linter.unusedSimpArgs false
set_option maxRecDepth 100000
namespace Go.AM.G
open Go Go.AM
section
variable {to : Nat → List Nat}
theorem IsPart.same {p q a b : Nat} (ha : IsPart to p a) (hb : IsPart to q b) (h1 : Rch to p q) (h2 : Rch to q p) : a = b := by
  have x := ha.2 b (h1.trans hb.1.1) (hb.1.2.trans h2)
  have y := hb.2 a (h2.trans ha.1.1) (ha.1.2.trans h1)
  omega
end
theorem mem_ints {l : List Nat} {p : Nat} : ((p : Nat) : Int) ∈ ints' l ↔ p ∈ l := by
  constructor
  · intro h
    obtain ⟨x, hx, e⟩ := List.mem_map.1 h
    have : x = p := by omega
    exact this ▸ hx
  · exact fun h => List.mem_map.2 ⟨p, h, rfl⟩
theorem parts_spec {m : Mem} {nv rv : V} {N : List NodeA} {R : List Int} (hG : Gr m nv rv N R) (hf : Fits N R) : C S n_law31_GraphParts [.agg [nv, rv]] m (fun r m' => r = .bool true ∧ Grow m m') := by
  refine C_body rfl rfl rfl ?_
  unfold law31_GraphParts
  obtain ⟨hc1, hc2⟩ := hG.cells
  simp (maxDischargeDepth := 30) only [hc1, hc2, amL, args0, Nat.reduceEqDiff, reduceCtorEq, ↓reduceIte, Nat.reduceAdd, resultsA, results1, Int.reduceNeg, splice, Nat.reduceLeDiff, part, fillA, fillE, Nat.reduceLT]
  refine lives_spec.mono ?_
  rintro _ _ ⟨rfl, rfl⟩
  obtain ⟨_, els0, hne0, hel0, _⟩ := id hG
  have lT : ∀ M, Grow (m ++ [Blk.cells true [[nv, rv]]]) M → ∀ j k, loadV M k (.ptr m.length 0 j) = part [nv, rv] j k := fun M hM j k => load_at0 (own := true) (hM.get (by simp))
  have lT0 := lT _ (Grow.refl _)
  by_cases h60 : (60 : Int) < N.length
  · simp (maxDischargeDepth := 30) only [aft_mk, lT0, hne0.len, hel0, h60, amL, args0, Nat.reduceEqDiff, reduceCtorEq, ↓reduceIte, Nat.reduceAdd, resultsA, results1, Int.reduceNeg, splice, Nat.reduceLeDiff, part, fillA, fillE, Nat.reduceLT]
    exact (Grow.refl _).app
  simp (maxDischargeDepth := 30) only [aft_mk, lT0, hne0.len, hel0, h60, hc1, hc2, amL, args0, Nat.reduceEqDiff, reduceCtorEq, ↓reduceIte, Nat.reduceAdd, resultsA, results1, Int.reduceNeg, splice, Nat.reduceLeDiff, part, fillA, fillE, Nat.reduceLT]
  have hG1 := hG.grow ((Grow.refl m).app (g := [Blk.cells true [[nv, rv]]]))
  refine (Parts_spec hG1 hf).mono ?_
  rintro r1 M1 ⟨hg1, hP⟩
  have hgm1 : Grow m M1 := (Grow.refl m).app.trans hg1
  have lT1 := lT M1 hg1
  rcases hP with ⟨hval, rfl⟩ | ⟨hval, pv, parts, rfl, hpv, hpart⟩
  · simp (maxDischargeDepth := 30) only [aft_mk, lT1, amL, args0, Nat.reduceEqDiff, reduceCtorEq, ↓reduceIte, Nat.reduceAdd, resultsA, results1, Int.reduceNeg, splice, Nat.reduceLeDiff, part, fillA, fillE, Nat.reduceLT]
    refine (Reached_spec (hG.grow hgm1) hf).mono ?_
    rintro r2 M2 ⟨hg2, hP2⟩
    rcases hP2 with ⟨_, rfl⟩ | ⟨hv2, _⟩
    · have c2 : ¬ (2 : Int) = 0 := by decide
      simp (maxDischargeDepth := 30) only [aft_mk, c2, amL, args0, Nat.reduceEqDiff, reduceCtorEq, ↓reduceIte, Nat.reduceAdd, resultsA, results1, Int.reduceNeg, splice, Nat.reduceLeDiff, part, fillA, fillE, Nat.reduceLT]
      exact hgm1.trans hg2
    · rw [hval] at hv2; cases hv2
  obtain ⟨hn, hto, hlt, hR, hRl, _⟩ := valid_to hval
  simp (maxDischargeDepth := 30) only [aft_mk, lT1, amL, args0, Nat.reduceEqDiff, reduceCtorEq, ↓reduceIte, Nat.reduceAdd, resultsA, results1, Int.reduceNeg, splice, Nat.reduceLeDiff, part, fillA, fillE, Nat.reduceLT]
  refine (Reached_spec (hG.grow hgm1) hf).mono ?_
  rintro r2 M2 ⟨hg2, hP2⟩
  rcases hP2 with ⟨hv2, _⟩ | ⟨_, lv, l, rfl, hlv, hsrt, hll, hlm⟩
  · rw [hval] at hv2; cases hv2
  have hgm2 := hgm1.trans hg2
  have hpv2 := hpv.grow hg2
  have lT2 := lT M2 (hg1.trans hg2)
  obtain ⟨_, els, hne, hel, hnds⟩ := hG.grow hgm2
  have c00 : ¬ ¬ (0 : Int) = 0 := by omega
  simp (maxDischargeDepth := 30) only [aft_mk, c00, hpv.len, natF_len, amL, args0, Nat.reduceEqDiff, reduceCtorEq, ↓reduceIte, Nat.reduceAdd, resultsA, results1, Int.reduceNeg, splice, Nat.reduceLeDiff, part, fillA, fillE, Nat.reduceLT]
  have hself : ∀ p, p < N.length → parts p ≤ p := fun p hp => (hpart p hp).2 p (.refl p) (.refl p)
  have hpp : ∀ p, p < N.length → parts (parts p) = parts p := fun p hp => (IsPart.same (hpart p hp) (hpart (parts p) (by have := hself p hp; omega)) (hpart p hp).1.1 (hpart p hp).1.2).symm
  have hlive : ∀ p, p < N.length → (p ∈ l ↔ parts p ∈ l) := fun p hp => by
    rw [hlm, hlm]
    have := hself p hp
    constructor
    · rintro ⟨_, r, hr, h⟩
      exact ⟨by omega, r, hr, h.trans (hpart p hp).1.1⟩
    · rintro ⟨_, r, hr, h⟩
      exact ⟨hp, r, hr, h.trans (hpart p hp).1.2⟩
  have hli : Sl M2 lv 1 (i64s (ints' l)) := by rw [← nats_ints]; exact hlv
  have hlil : (ints' l).length < 2 ^ 60 := by simp; omega
  let I := fun (k : Nat) (fr : Frame) (M : Mem) => ∃ i : Nat, i ≤ N.length ∧ k = N.length - i ∧ fr 1 = .ptr m.length 0 0 ∧ fr 3 = pv ∧ fr 5 = lv ∧ fr 6 = .int .i64 0 ∧ fr 36 = pv ∧ fr 37 = .int .i64 N.length ∧ fr 38 = .int .i64 i ∧ M = M2
  refine W_loop I ?_ N.length ?_
  · rintro k fr M ⟨i, hi, rfl, f1, f3, f5, f6, f36, f37, f38, rfl⟩
    unfold law31_GraphParts_l0
    simp (maxDischargeDepth := 30) only [f1, f3, f5, f6, f36, f37, f38, amL, args0, Nat.reduceEqDiff, reduceCtorEq, ↓reduceIte, Nat.reduceAdd, resultsA, results1, Int.reduceNeg, splice, Nat.reduceLeDiff, part, fillA, fillE, Nat.reduceLT]
    first | (refine O_split (by simp only [put_apply, Nat.reduceEqDiff, ↓reduceIte, reduceCtorEq]; rfl) (fun h => ?_) (fun h => ?_) <;> simp only [decide_eq_true_eq, decide_eq_false_iff_not, Decidable.not_not, Bool.and_eq_true, Bool.not_eq_true', Bool.not_eq_false'] at h) | (refine W_split (by simp only [get_t, put_apply, Nat.reduceEqDiff, ↓reduceIte, reduceCtorEq]; rfl) (fun h => ?_) (fun h => ?_) <;> simp only [decide_eq_true_eq, decide_eq_false_iff_not, Decidable.not_not, Bool.and_eq_true, Bool.not_eq_true', Bool.not_eq_false'] at h)
    · have hil : i < N.length := by omega
      have hs := hself i hil
      have ix := hpv2.index (ki := .i64) (n := i) (by omega) (by rw [natF_len]; omega)
      have ld := fun o k => hpv2.load (o := o) (k := k) (natF_get hil)
      have ix2 := hpv2.index (ki := .i64) (n := parts i) (by omega) (by rw [natF_len]; omega)
      have ld2 := fun o k => hpv2.load (o := o) (k := k) (natF_get (f := parts) (show parts i < N.length by omega))
      simp only [Int.toNat_natCast, hpp i hil] at ix ix2 ld2
      have w1 : IntKind.i64.wrap ((i : Int) + 1) = ((i + 1 : Nat) : Int) := by rw [wrap_i64] <;> omega
      have c1 : ¬ (i : Int) < parts i := by omega
      have c2 : ¬ ¬ ((parts i : Nat) : Int) = parts i := fun x => x rfl
      simp (maxDischargeDepth := 30) only [h, f1, f3, f5, f6, f36, f37, f38, ix, ld, c1, ix2, ld2, c2, amL, args0, Nat.reduceEqDiff, reduceCtorEq, ↓reduceIte, Nat.reduceAdd, resultsA, results1, Int.reduceNeg, splice, Nat.reduceLeDiff, part, fillA, fillE, Nat.reduceLT]
      refine (hasPlace_spec (i : Int) (.inl hli) hlil).mono ?_
      rintro _ _ ⟨rfl, rfl⟩
      simp (maxDischargeDepth := 30) only [aft_mk, f5, amL, args0, Nat.reduceEqDiff, reduceCtorEq, ↓reduceIte, Nat.reduceAdd, resultsA, results1, Int.reduceNeg, splice, Nat.reduceLeDiff, part, fillA, fillE, Nat.reduceLT]
      refine (hasPlace_spec (parts i : Int) (.inl hli) hlil).mono ?_
      rintro _ _ ⟨rfl, rfl⟩
      have heq : decide ((i : Int) ∈ ints' l) = decide (((parts i : Nat) : Int) ∈ ints' l) := by
        simp only [mem_ints, hlive i hil]
      have hnb : ∀ b : Bool, eqV .bool (.bool b) (.bool b) = some true := fun b => by cases b <;> rfl
      obtain ⟨ndi, hndi⟩ : ∃ nd, N[i]? = some nd := ⟨_, List.getElem?_eq_getElem hil⟩
      obtain ⟨tvi, htei, htvi⟩ := hnds i ndi hndi
      have hfi : ndi.to.length < 2 ^ 60 := hf.2.2 ndi (List.mem_of_getElem? hndi)
      have hti := hto i ndi hndi
      have ixn := hne.index (ki := .i64) (n := i) (by omega) (by omega)
      have ldn := fun o k => hne.load (o := o) (k := k) htei
      simp only [Int.toNat_natCast] at ixn
      let J := fun (k : Nat) (fr : Frame) (M' : Mem) => ∃ j : Nat, j ≤ i ∧ k = i - j ∧ fr 1 = .ptr m.length 0 0 ∧ fr 3 = pv ∧ fr 5 = lv ∧ fr 6 = .int .i64 0 ∧ fr 7 = .int .i64 i ∧ fr 8 = .int .i64 (parts i : Nat) ∧ fr 9 = .int .i64 j ∧ fr 36 = pv ∧ fr 37 = .int .i64 N.length ∧ fr 38 = .int .i64 i ∧ M' = M
      have inner : ∀ fr0 : Frame, fr0 1 = .ptr m.length 0 0 → fr0 3 = pv → fr0 5 = lv → fr0 6 = .int .i64 0 → fr0 7 = .int .i64 i → fr0 8 = .int .i64 (parts i : Nat) → fr0 9 = .int .i64 (0 : Nat) → fr0 36 = pv → fr0 37 = .int .i64 N.length → fr0 38 = .int .i64 i → W S (.loop law31_GraphParts_l1) fr0 M (fun e fr' M' => e = .exit 2 ∧ fr' 1 = .ptr m.length 0 0 ∧ fr' 3 = pv ∧ fr' 5 = lv ∧ fr' 6 = .int .i64 0 ∧ fr' 36 = pv ∧ fr' 37 = .int .i64 N.length ∧ fr' 38 = .int .i64 i ∧ M' = M) := by
        intro fr0 a1 a3 a5 a6 a7 a8 a9 a36 a37 a38
        refine W_loop J ?_ i ⟨0, Nat.zero_le _, rfl, a1, a3, a5, a6, a7, a8, a9, a36, a37, a38, rfl⟩
        rintro k fr M' ⟨j, hj, rfl, g1, g3, g5, g6, g7, g8, g9, g36, g37, g38, rfl⟩
        unfold law31_GraphParts_l1
        simp (maxDischargeDepth := 30) only [g1, g3, g5, g6, g7, g8, g9, g36, g37, g38, amL, args0, Nat.reduceEqDiff, reduceCtorEq, ↓reduceIte, Nat.reduceAdd, resultsA, results1, Int.reduceNeg, splice, Nat.reduceLeDiff, part, fillA, fillE, Nat.reduceLT]
        by_cases hji : (j : Int) < i
        · have hjn : j < N.length := by omega
          obtain ⟨ndj, hndj⟩ : ∃ nd, N[j]? = some nd := ⟨_, List.getElem?_eq_getElem hjn⟩
          obtain ⟨tvj, htej, htvj⟩ := hnds j ndj hndj
          have hfj : ndj.to.length < 2 ^ 60 := hf.2.2 ndj (List.mem_of_getElem? hndj)
          have htj := hto j ndj hndj
          have ixj := hne.index (ki := .i64) (n := j) (by omega) (by omega)
          have ldj := fun o k => hne.load (o := o) (k := k) htej
          have ixp := hpv2.index (ki := .i64) (n := j) (by omega) (by rw [natF_len]; omega)
          have ldp := fun o k => hpv2.load (o := o) (k := k) (natF_get (f := parts) hjn)
          simp only [Int.toNat_natCast] at ixj ixp
          have w2 : IntKind.i64.wrap ((j : Int) + 1) = ((j + 1 : Nat) : Int) := by rw [wrap_i64] <;> omega
          simp (maxDischargeDepth := 30) only [hji, g1, g3, g5, g6, g7, g8, g9, g36, g37, g38, lT2, ixn, ldn, amL, args0, Nat.reduceEqDiff, reduceCtorEq, ↓reduceIte, Nat.reduceAdd, resultsA, results1, Int.reduceNeg, splice, Nat.reduceLeDiff, part, fillA, fillE, Nat.reduceLT]
          refine (hasPlace_spec (j : Int) htvi hfi).mono ?_
          rintro _ _ ⟨rfl, rfl⟩
          have fin : ∀ fr' : Frame, fr' 1 = .ptr m.length 0 0 → fr' 3 = pv → fr' 5 = lv → fr' 6 = .int .i64 0 → fr' 7 = .int .i64 i → fr' 8 = .int .i64 (parts i : Nat) → fr' 9 = .int .i64 (j + 1 : Nat) → fr' 36 = pv → fr' 37 = .int .i64 N.length → fr' 38 = .int .i64 i → ∃ j', j' < i - j ∧ J j' fr' M' := fun fr' b1 b3 b5 b6 b7 b8 b9 b36 b37 b38 => ⟨i - (j + 1), by omega, j + 1, by omega, rfl, b1, b3, b5, b6, b7, b8, b9, b36, b37, b38, rfl⟩
          by_cases hm1 : (j : Int) ∈ ndi.to
          · simp (maxDischargeDepth := 30) only [aft_mk, hm1, lT2, ixj, ldj, g1, g9, g7, amL, args0, Nat.reduceEqDiff, reduceCtorEq, ↓reduceIte, Nat.reduceAdd, resultsA, results1, Int.reduceNeg, splice, Nat.reduceLeDiff, part, fillA, fillE, Nat.reduceLT]
            refine (hasPlace_spec (i : Int) htvj hfj).mono ?_
            rintro _ _ ⟨rfl, rfl⟩
            by_cases hm2 : (i : Int) ∈ ndj.to
            · have hpj : parts j = parts i := by
                rw [hti, mem_ints] at hm1
                rw [htj, mem_ints] at hm2
                exact (hpart j hjn).same (hpart i hil) (Rch.one hm2) (Rch.one hm1)
              have c3 : ¬ ¬ ((parts j : Nat) : Int) = parts i := by rw [hpj]; exact fun x => x rfl
              simp (maxDischargeDepth := 30) only [aft_mk, hm2, g1, g3, g5, g6, g7, g8, g9, g36, g37, g38, ixp, ldp, c3, w2, amL, args0, Nat.reduceEqDiff, reduceCtorEq, ↓reduceIte, Nat.reduceAdd, resultsA, results1, Int.reduceNeg, splice, Nat.reduceLeDiff, part, fillA, fillE, Nat.reduceLT]
              refine fin _ ?_ ?_ ?_ ?_ ?_ ?_ ?_ ?_ ?_ ?_
              all_goals simp (maxDischargeDepth := 30) only [g1, g3, g5, g6, g7, g8, g36, g37, g38, amL, args0, Nat.reduceEqDiff, reduceCtorEq, ↓reduceIte, Nat.reduceAdd, resultsA, results1, Int.reduceNeg, splice, Nat.reduceLeDiff, part, fillA, fillE, Nat.reduceLT]
            · simp (maxDischargeDepth := 30) only [aft_mk, hm2, g1, g3, g5, g6, g7, g8, g9, g36, g37, g38, w2, amL, args0, Nat.reduceEqDiff, reduceCtorEq, ↓reduceIte, Nat.reduceAdd, resultsA, results1, Int.reduceNeg, splice, Nat.reduceLeDiff, part, fillA, fillE, Nat.reduceLT]
              refine fin _ ?_ ?_ ?_ ?_ ?_ ?_ ?_ ?_ ?_ ?_
              all_goals simp (maxDischargeDepth := 30) only [g1, g3, g5, g6, g7, g8, g36, g37, g38, amL, args0, Nat.reduceEqDiff, reduceCtorEq, ↓reduceIte, Nat.reduceAdd, resultsA, results1, Int.reduceNeg, splice, Nat.reduceLeDiff, part, fillA, fillE, Nat.reduceLT]
          · simp (maxDischargeDepth := 30) only [aft_mk, hm1, g1, g3, g5, g6, g7, g8, g9, g36, g37, g38, w2, amL, args0, Nat.reduceEqDiff, reduceCtorEq, ↓reduceIte, Nat.reduceAdd, resultsA, results1, Int.reduceNeg, splice, Nat.reduceLeDiff, part, fillA, fillE, Nat.reduceLT]
            refine fin _ ?_ ?_ ?_ ?_ ?_ ?_ ?_ ?_ ?_ ?_
            all_goals simp (maxDischargeDepth := 30) only [g1, g3, g5, g6, g7, g8, g36, g37, g38, amL, args0, Nat.reduceEqDiff, reduceCtorEq, ↓reduceIte, Nat.reduceAdd, resultsA, results1, Int.reduceNeg, splice, Nat.reduceLeDiff, part, fillA, fillE, Nat.reduceLT]
        · simp (maxDischargeDepth := 30) only [hji, g1, g3, g5, g6, g7, g8, g9, g36, g37, g38, amL, args0, Nat.reduceEqDiff, reduceCtorEq, ↓reduceIte, Nat.reduceAdd, resultsA, results1, Int.reduceNeg, splice, Nat.reduceLeDiff, part, fillA, fillE, Nat.reduceLT]
      rw [heq]
      simp (maxDischargeDepth := 30) only [aft_mk, hnb, f1, f3, f5, f6, f36, f37, f38, amL, args0, Nat.reduceEqDiff, reduceCtorEq, ↓reduceIte, Nat.reduceAdd, resultsA, results1, Int.reduceNeg, splice, Nat.reduceLeDiff, part, fillA, fillE, Nat.reduceLT]
      refine (inner _ (by simp (maxDischargeDepth := 30) only [f1, amL, args0, Nat.reduceEqDiff, reduceCtorEq, ↓reduceIte, Nat.reduceAdd, resultsA, results1, Int.reduceNeg, splice, Nat.reduceLeDiff, part, fillA, fillE, Nat.reduceLT]) (by simp (maxDischargeDepth := 30) only [f3, amL, args0, Nat.reduceEqDiff, reduceCtorEq, ↓reduceIte, Nat.reduceAdd, resultsA, results1, Int.reduceNeg, splice, Nat.reduceLeDiff, part, fillA, fillE, Nat.reduceLT]) (by simp (maxDischargeDepth := 30) only [f5, amL, args0, Nat.reduceEqDiff, reduceCtorEq, ↓reduceIte, Nat.reduceAdd, resultsA, results1, Int.reduceNeg, splice, Nat.reduceLeDiff, part, fillA, fillE, Nat.reduceLT]) (by simp (maxDischargeDepth := 30) only [f6, amL, args0, Nat.reduceEqDiff, reduceCtorEq, ↓reduceIte, Nat.reduceAdd, resultsA, results1, Int.reduceNeg, splice, Nat.reduceLeDiff, part, fillA, fillE, Nat.reduceLT]) (by simp (maxDischargeDepth := 30) only [amL, args0, Nat.reduceEqDiff, reduceCtorEq, ↓reduceIte, Nat.reduceAdd, resultsA, results1, Int.reduceNeg, splice, Nat.reduceLeDiff, part, fillA, fillE, Nat.reduceLT]) (by simp (maxDischargeDepth := 30) only [amL, args0, Nat.reduceEqDiff, reduceCtorEq, ↓reduceIte, Nat.reduceAdd, resultsA, results1, Int.reduceNeg, splice, Nat.reduceLeDiff, part, fillA, fillE, Nat.reduceLT]) (by simp (maxDischargeDepth := 30) only [amL, args0, Nat.reduceEqDiff, reduceCtorEq, ↓reduceIte, Nat.reduceAdd, resultsA, results1, Int.reduceNeg, splice, Nat.reduceLeDiff, part, fillA, fillE, Nat.reduceLT]; rfl) (by simp (maxDischargeDepth := 30) only [f36, amL, args0, Nat.reduceEqDiff, reduceCtorEq, ↓reduceIte, Nat.reduceAdd, resultsA, results1, Int.reduceNeg, splice, Nat.reduceLeDiff, part, fillA, fillE, Nat.reduceLT]) (by simp (maxDischargeDepth := 30) only [f37, amL, args0, Nat.reduceEqDiff, reduceCtorEq, ↓reduceIte, Nat.reduceAdd, resultsA, results1, Int.reduceNeg, splice, Nat.reduceLeDiff, part, fillA, fillE, Nat.reduceLT]) (by simp (maxDischargeDepth := 30) only [f38, amL, args0, Nat.reduceEqDiff, reduceCtorEq, ↓reduceIte, Nat.reduceAdd, resultsA, results1, Int.reduceNeg, splice, Nat.reduceLeDiff, part, fillA, fillE, Nat.reduceLT])).mono ?_
      rintro _ fr' M' ⟨rfl, b1, b3, b5, b6, b36, b37, b38, rfl⟩
      simp (maxDischargeDepth := 30) only [b38, w1, amL, args0, Nat.reduceEqDiff, reduceCtorEq, ↓reduceIte, Nat.reduceAdd, resultsA, results1, Int.reduceNeg, splice, Nat.reduceLeDiff, part, fillA, fillE, Nat.reduceLT]
      refine ⟨_, ?_, i + 1, by omega, rfl, ?_, ?_, ?_, ?_, ?_, ?_, ?_, rfl⟩
      · omega
      · simp (maxDischargeDepth := 30) only [b1, amL, args0, Nat.reduceEqDiff, reduceCtorEq, ↓reduceIte, Nat.reduceAdd, resultsA, results1, Int.reduceNeg, splice, Nat.reduceLeDiff, part, fillA, fillE, Nat.reduceLT]
      · simp (maxDischargeDepth := 30) only [b3, amL, args0, Nat.reduceEqDiff, reduceCtorEq, ↓reduceIte, Nat.reduceAdd, resultsA, results1, Int.reduceNeg, splice, Nat.reduceLeDiff, part, fillA, fillE, Nat.reduceLT]
      · simp (maxDischargeDepth := 30) only [b5, amL, args0, Nat.reduceEqDiff, reduceCtorEq, ↓reduceIte, Nat.reduceAdd, resultsA, results1, Int.reduceNeg, splice, Nat.reduceLeDiff, part, fillA, fillE, Nat.reduceLT]
      · simp (maxDischargeDepth := 30) only [b6, amL, args0, Nat.reduceEqDiff, reduceCtorEq, ↓reduceIte, Nat.reduceAdd, resultsA, results1, Int.reduceNeg, splice, Nat.reduceLeDiff, part, fillA, fillE, Nat.reduceLT]
      · simp (maxDischargeDepth := 30) only [b36, amL, args0, Nat.reduceEqDiff, reduceCtorEq, ↓reduceIte, Nat.reduceAdd, resultsA, results1, Int.reduceNeg, splice, Nat.reduceLeDiff, part, fillA, fillE, Nat.reduceLT]
      · simp (maxDischargeDepth := 30) only [b37, amL, args0, Nat.reduceEqDiff, reduceCtorEq, ↓reduceIte, Nat.reduceAdd, resultsA, results1, Int.reduceNeg, splice, Nat.reduceLeDiff, part, fillA, fillE, Nat.reduceLT]
      · simp (maxDischargeDepth := 30) only [amL, args0, Nat.reduceEqDiff, reduceCtorEq, ↓reduceIte, Nat.reduceAdd, resultsA, results1, Int.reduceNeg, splice, Nat.reduceLeDiff, part, fillA, fillE, Nat.reduceLT]
    · have : i = N.length := by omega
      subst this
      simp (maxDischargeDepth := 30) only [h, f1, f3, f5, f6, f36, f37, f38, hpv.len, natF_len, lT2, hne.len, hel, amL, args0, Nat.reduceEqDiff, reduceCtorEq, ↓reduceIte, Nat.reduceAdd, resultsA, results1, Int.reduceNeg, splice, Nat.reduceLeDiff, part, fillA, fillE, Nat.reduceLT]
      exact hgm2
  · exact ⟨0, Nat.zero_le _, rfl, by simp (maxDischargeDepth := 30) only [amL, args0, Nat.reduceEqDiff, reduceCtorEq, ↓reduceIte, Nat.reduceAdd, resultsA, results1, Int.reduceNeg, splice, Nat.reduceLeDiff, part, fillA, fillE, Nat.reduceLT], by simp (maxDischargeDepth := 30) only [amL, args0, Nat.reduceEqDiff, reduceCtorEq, ↓reduceIte, Nat.reduceAdd, resultsA, results1, Int.reduceNeg, splice, Nat.reduceLeDiff, part, fillA, fillE, Nat.reduceLT], by simp (maxDischargeDepth := 30) only [amL, args0, Nat.reduceEqDiff, reduceCtorEq, ↓reduceIte, Nat.reduceAdd, resultsA, results1, Int.reduceNeg, splice, Nat.reduceLeDiff, part, fillA, fillE, Nat.reduceLT], by simp (maxDischargeDepth := 30) only [amL, args0, Nat.reduceEqDiff, reduceCtorEq, ↓reduceIte, Nat.reduceAdd, resultsA, results1, Int.reduceNeg, splice, Nat.reduceLeDiff, part, fillA, fillE, Nat.reduceLT], by simp (maxDischargeDepth := 30) only [amL, args0, Nat.reduceEqDiff, reduceCtorEq, ↓reduceIte, Nat.reduceAdd, resultsA, results1, Int.reduceNeg, splice, Nat.reduceLeDiff, part, fillA, fillE, Nat.reduceLT], by simp (maxDischargeDepth := 30) only [amL, args0, Nat.reduceEqDiff, reduceCtorEq, ↓reduceIte, Nat.reduceAdd, resultsA, results1, Int.reduceNeg, splice, Nat.reduceLeDiff, part, fillA, fillE, Nat.reduceLT], by simp (maxDischargeDepth := 30) only [amL, args0, Nat.reduceEqDiff, reduceCtorEq, ↓reduceIte, Nat.reduceAdd, resultsA, results1, Int.reduceNeg, splice, Nat.reduceLeDiff, part, fillA, fillE, Nat.reduceLT]; rfl, rfl⟩
end Go.AM.G
