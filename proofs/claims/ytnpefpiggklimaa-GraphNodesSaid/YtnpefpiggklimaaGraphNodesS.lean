/- GraphNodes on the abstract machine. -/
import Derived.Test.YtnpefpiggklimaaGraphF9
set_option linter.unusedVariables false
set_option linter.unusedSimpArgs false
set_option maxRecDepth 100000
namespace Go.AM.G
open Go Go.AM
theorem nodes_law {m : Mem} {nv rv : V} {N : List NodeA} {R : List Int} (hG : Gr m nv rv N R) (hf : Fits N R) (ha : ∀ x, x ∈ N → 0 ≤ x.addr) (x : Int) : C S n_law31_GraphNodes [.agg [nv, rv], .int .i64 x] m (fun r m' => r = .bool true ∧ Grow m m') := by
  refine C_body rfl rfl rfl ?_
  unfold law31_GraphNodes
  obtain ⟨hc1, hc2⟩ := hG.cells
  obtain ⟨_, els, hne, hel, _⟩ := id hG
  have hnl := hne.len
  rw [hel] at hnl
  have r0 : List.replicate 0 Blk.dead = [] := rfl
  generalize hM0 : m ++ [Blk.cells true [[nv, rv]]] = M0
  have hg0 : Grow m M0 := by rw [← hM0]; exact (Grow.refl _).app
  have hT0 : M0[m.length]? = some (.cells true [[nv, rv]]) := by rw [← hM0]; simp
  have l0 := fun j k => load_at0 (k := k) (j := j) hT0
  by_cases h60 : (60 : Int) < N.length
  · simp (maxDischargeDepth := 30) only [hc1, hc2, hM0, l0, hnl, h60, amL, args0, Nat.reduceEqDiff, reduceCtorEq, ↓reduceIte, Nat.reduceAdd, resultsA, results1, Int.reduceNeg, splice, Nat.reduceLeDiff, part, fillA, fillE, Nat.reduceLT]
    refine lives_spec.mono ?_
    rintro _ _ ⟨rfl, rfl⟩
    simp (maxDischargeDepth := 30) only [aft_mk, amL, args0, Nat.reduceEqDiff, reduceCtorEq, ↓reduceIte, Nat.reduceAdd, resultsA, results1, Int.reduceNeg, splice, Nat.reduceLeDiff, part, fillA, fillE, Nat.reduceLT]
    exact hg0
  obtain ⟨hl, hhl⟩ : ∃ hl : Nat → Bool, ∀ p, p < N.length → (hl p = true ↔ Live N R p ∧ ¬ ∃ j, Pth (toN N) (rootsN R) x j p) := by
    refine ⟨fun p => @decide (Live N R p ∧ ¬ ∃ j, Pth (toN N) (rootsN R) x j p) (Classical.propDecidable _), fun p _ => by simp⟩
  simp (maxDischargeDepth := 30) only [hc1, hc2, hM0, l0, hnl, h60, amL, args0, Nat.reduceEqDiff, reduceCtorEq, ↓reduceIte, Nat.reduceAdd, resultsA, results1, Int.reduceNeg, splice, Nat.reduceLeDiff, part, fillA, fillE, Nat.reduceLT]
  refine (Retained_spec (hG.grow hg0) hf x hl hhl).mono ?_
  rintro _ M1 ⟨hg1, rfl⟩
  have l1 := fun j k => load_at0 (k := k) (j := j) (hg1.get hT0)
  have hgm1 := hg0.trans hg1
  generalize hsum : (if validG N R = true then if x < 0 ∨ (N.length : Int) ≤ x then V.tup [V.int IntKind.i64 0, V.int IntKind.i64 1] else V.tup [V.int IntKind.i64 (sumW N hl N.length), V.int IntKind.i64 0] else V.tup [V.int IntKind.i64 0, V.int IntKind.i64 2]) = rs
  obtain ⟨s1, s2, hrs⟩ : ∃ s1 s2 : Int, rs = .tup [.int .i64 s1, .int .i64 s2] := by
    rw [← hsum]
    split
    · split <;> exact ⟨_, _, rfl⟩
    · exact ⟨_, _, rfl⟩
  subst hrs
  simp (maxDischargeDepth := 30) only [aft_mk, l1, amL, args0, Nat.reduceEqDiff, reduceCtorEq, ↓reduceIte, Nat.reduceAdd, resultsA, results1, Int.reduceNeg, splice, Nat.reduceLeDiff, part, fillA, fillE, Nat.reduceLT]
  refine (refRetained_spec (hG.grow hgm1) hf ha x hl hhl).mono ?_
  rintro _ M2 ⟨hg2, rfl⟩
  rw [hsum]
  have hgm2 := hgm1.trans hg2
  have l2 := fun j k => load_at0 (k := k) (j := j) ((hg1.trans hg2).get hT0)
  simp (maxDischargeDepth := 30) only [aft_mk, l2, amL, args0, Nat.reduceEqDiff, reduceCtorEq, ↓reduceIte, Nat.reduceAdd, resultsA, results1, Int.reduceNeg, splice, Nat.reduceLeDiff, part, fillA, fillE, Nat.reduceLT]
  refine (Way_spec (hG.grow hgm2) hf x).mono ?_
  rintro w1 M3 ⟨hg3, hw1⟩
  have hgm3 := hgm2.trans hg3
  -- the way is told alike
  have key : ∃ v W e, w1 = .tup [v, .int .i64 e] ∧ Sl M3 v 1 (nats W) ∧ W.length < 2 ^ 60 ∧ ∀ (r : V) (m' : Mem), Grow M3 m' → (if validG N R = true then (if x < 0 ∨ (N.length : Int) ≤ x then r = .tup [.nils, .int .i64 1] else ∃ far, FarOK (toN N) (rootsN R) N.length far ∧ ((far x.toNat < 0 ∧ r = .tup [.nils, .int .i64 3]) ∨ (0 ≤ far x.toNat ∧ ∃ v W, r = .tup [v, .int .i64 0] ∧ Sl m' v 1 (nats W) ∧ WayIs (toN N) (rootsN R) far x.toNat W))) else r = .tup [.nils, .int .i64 2]) → ∃ v', r = .tup [v', .int .i64 e] ∧ Sl m' v' 1 (nats W) := by
    by_cases hval : validG N R = true
    · rw [if_pos hval] at hw1
      simp only [if_pos hval]
      by_cases hx : x < 0 ∨ (N.length : Int) ≤ x
      · rw [if_pos hx] at hw1
        simp only [if_pos hx]
        exact ⟨.nils, [], 1, hw1, ⟨rfl, rfl⟩, by simp, fun r m' _ h => ⟨.nils, h, rfl, rfl⟩⟩
      · rw [if_neg hx] at hw1
        simp only [if_neg hx]
        obtain ⟨far, hfar, h1 | h1⟩ := hw1
        · refine ⟨.nils, [], 3, h1.2, ⟨rfl, rfl⟩, by simp, ?_⟩
          rintro r m' _ ⟨far', hfar', h2 | h2⟩
          · exact ⟨.nils, h2.2, rfl, rfl⟩
          · have := hfar'.agree hfar h2.1; have := h1.1; have := h2.1; omega
        · obtain ⟨h1, v, W, h2, h3, h4⟩ := h1
          refine ⟨v, W, 0, h2, h3.sl, ?_, ?_⟩
          · have h5 := h4.2
            have h6 := hfar.lt h1
            have : N.length < 2 ^ 60 := hf.1
            omega
          · rintro r m' _ ⟨far', hfar', h5 | h5⟩
            · have := hfar.agree hfar' h1; have := h5.1; omega
            · obtain ⟨h5, v', W', h6, h7, h8⟩ := h5
              have : W' = W := (h8.conv hfar' hfar h5).uniq h4
              subst this
              exact ⟨v', h6, h7⟩
    · rw [if_neg hval] at hw1
      simp only [if_neg hval]
      exact ⟨.nils, [], 2, hw1, ⟨rfl, rfl⟩, by simp, fun r m' _ h => ⟨.nils, h, rfl, rfl⟩⟩
  obtain ⟨v1, W, e, rfl, hv1, hWl, key⟩ := key
  have l3 := fun j k => load_at0 (k := k) (j := j) (((hg1.trans hg2).trans hg3).get hT0)
  simp (maxDischargeDepth := 30) only [aft_mk, l3, amL, args0, Nat.reduceEqDiff, reduceCtorEq, ↓reduceIte, Nat.reduceAdd, resultsA, results1, Int.reduceNeg, splice, Nat.reduceLeDiff, part, fillA, fillE, Nat.reduceLT]
  refine (refWay_spec (hG.grow hgm3) hf ha x).mono ?_
  rintro w2 M4 ⟨hg4, hw2⟩
  obtain ⟨v2, rfl, hv2⟩ := key w2 M4 hg4 hw2
  have hgm4 := hgm3.trans hg4
  have l4 := fun j k => load_at0 (k := k) (j := j) ((((hg1.trans hg2).trans hg3).trans hg4).get hT0)
  simp (maxDischargeDepth := 30) only [aft_mk, l4, amL, args0, Nat.reduceEqDiff, reduceCtorEq, ↓reduceIte, Nat.reduceAdd, resultsA, results1, Int.reduceNeg, splice, Nat.reduceLeDiff, part, fillA, fillE, Nat.reduceLT]
  refine (Without_spec (hG.grow hgm4) hf x).mono ?_
  rintro w3 M5 ⟨hg5, hw3⟩
  have hgm5 := hgm4.trans hg5
  have key2 : ∃ nv' rv' N' R' e', w3 = .tup [.agg [nv', rv'], .int .i64 e'] ∧ Gr M5 nv' rv' N' R' ∧ Fits N' R' ∧ ∀ (r : V) (m' : Mem), (if validG N R = true then (if x < 0 ∨ (N.length : Int) ≤ x then r = .tup [.agg [.nils, .nils], .int .i64 1] else ∃ nv' rv', r = .tup [.agg [nv', rv'], .int .i64 0] ∧ Gr m' nv' rv' (woN N x.toNat) (restI x R)) else r = .tup [.agg [.nils, .nils], .int .i64 2]) → ∃ nv' rv', r = .tup [.agg [nv', rv'], .int .i64 e'] ∧ Gr m' nv' rv' N' R' := by
    have g0 : ∀ M : Mem, Gr M .nils .nils [] [] := fun M => ⟨⟨rfl, rfl⟩, [], ⟨rfl, rfl⟩, rfl, fun i nd h => by simp at h⟩
    have f0 : Fits [] [] := ⟨by simp, by simp, fun x h => by cases h⟩
    by_cases hval : validG N R = true
    · rw [if_pos hval] at hw3
      simp only [if_pos hval]
      by_cases hx : x < 0 ∨ (N.length : Int) ≤ x
      · rw [if_pos hx] at hw3
        simp only [if_pos hx]
        exact ⟨.nils, .nils, [], [], 1, hw3, g0 _, f0, fun r m' h => ⟨.nils, .nils, h, g0 _⟩⟩
      · rw [if_neg hx] at hw3
        simp only [if_neg hx]
        obtain ⟨nv', rv', h1, h2⟩ := hw3
        obtain ⟨y, rfl⟩ : ∃ y : Nat, x = y := ⟨x.toNat, by omega⟩
        exact ⟨nv', rv', _, _, 0, h1, h2, wo_fits hf y, fun r m' h => h⟩
    · rw [if_neg hval] at hw3
      simp only [if_neg hval]
      exact ⟨.nils, .nils, [], [], 2, hw3, g0 _, f0, fun r m' h => ⟨.nils, .nils, h, g0 _⟩⟩
  obtain ⟨nv5, rv5, N', R', e', rfl, hG5, hf5, key2⟩ := key2
  obtain ⟨hd1, hd2⟩ := hG5.cells
  generalize hM6 : M5 ++ [Blk.cells true [[nv5, rv5]]] = M6
  have hg6 : Grow M5 M6 := by rw [← hM6]; exact (Grow.refl _).app
  have hP6 : M6[M5.length]? = some (.cells true [[nv5, rv5]]) := by rw [← hM6]; simp
  have hgm6 := hgm5.trans hg6
  have l6 := fun j k => load_at0 (k := k) (j := j) ((((((hg1.trans hg2).trans hg3).trans hg4).trans hg5).trans hg6).get hT0)
  simp (maxDischargeDepth := 30) only [aft_mk, hd1, hd2, hM6, l6, amL, args0, Nat.reduceEqDiff, reduceCtorEq, ↓reduceIte, Nat.reduceAdd, resultsA, results1, Int.reduceNeg, splice, Nat.reduceLeDiff, part, fillA, fillE, Nat.reduceLT]
  refine (refWithout_spec (hG.grow hgm6) hf ha x).mono ?_
  rintro w4 M7 ⟨hg7, hw4⟩
  obtain ⟨nv7, rv7, rfl, hG7⟩ := key2 w4 M7 hw4
  obtain ⟨hd3, hd4⟩ := hG7.cells
  generalize hM8 : M7 ++ [Blk.cells true [[nv7, rv7]]] = M8
  have hg8 : Grow M7 M8 := by rw [← hM8]; exact (Grow.refl _).app
  have hQ8 : M8[M7.length]? = some (.cells true [[nv7, rv7]]) := by rw [← hM8]; simp
  have l8 := fun j k => load_at0 (k := k) (j := j) ((hg7.trans hg8).get hP6)
  have q8 := fun j k => load_at0 (k := k) (j := j) hQ8
  have hgm8 := (hgm6.trans hg7).trans hg8
  have hg58 := (hg6.trans hg7).trans hg8
  simp (maxDischargeDepth := 30) only [aft_mk, hd3, hd4, hM8, l8, q8, amL, args0, Nat.reduceEqDiff, reduceCtorEq, ↓reduceIte, Nat.reduceAdd, resultsA, results1, Int.reduceNeg, splice, Nat.reduceLeDiff, part, fillA, fillE, Nat.reduceLT]
  refine lives_spec.mono ?_
  rintro _ _ ⟨rfl, rfl⟩
  simp (maxDischargeDepth := 30) only [aft_mk, eq_self, amL, args0, Nat.reduceEqDiff, reduceCtorEq, ↓reduceIte, Nat.reduceAdd, resultsA, results1, Int.reduceNeg, splice, Nat.reduceLeDiff, part, fillA, fillE, Nat.reduceLT]
  rw [nats_ints] at hv1 hv2
  refine (SamePlaces_spec (.inl (hv1.grow ((hg4.trans hg5).trans hg58))) (.inl (hv2.grow (hg5.trans hg58))) (by simpa using hWl)).mono ?_
  rintro _ _ ⟨rfl, rfl⟩
  simp (maxDischargeDepth := 30) only [aft_mk, eq_self, l8, q8, amL, args0, Nat.reduceEqDiff, reduceCtorEq, ↓reduceIte, Nat.reduceAdd, resultsA, results1, Int.reduceNeg, splice, Nat.reduceLeDiff, part, fillA, fillE, Nat.reduceLT]
  refine (Same_spec (hG5.grow hg58) (hG7.grow hg8) hf5).mono ?_
  rintro _ M9 ⟨rfl, hg9⟩
  simp (maxDischargeDepth := 30) only [aft_mk, eq_self, amL, args0, Nat.reduceEqDiff, reduceCtorEq, ↓reduceIte, Nat.reduceAdd, resultsA, results1, Int.reduceNeg, splice, Nat.reduceLeDiff, part, fillA, fillE, Nat.reduceLT]
  exact hgm8.trans hg9
end Go.AM.G
