/- GraphAsks on the abstract machine. -/
import Derived.Test.YtnpefpiggklimaaGraphF5
set_option linter.unusedVariables false
set_option linter.unusedSimpArgs false
set_option maxRecDepth 100000
namespace Go.AM.G
open Go Go.AM
theorem natF_i64 {n : Nat} {f : Nat → Nat} : natF n f = i64s ((List.range n).map fun p => ((f p : Nat) : Int)) := by simp [natF]
theorem intF_i64 {n : Nat} {f : Nat → Int} : intF n f = i64s ((List.range n).map f) := by simp [intF]
theorem nats_ext : ∀ {l1 l2 : List Nat}, l1.Pairwise (· < ·) → l2.Pairwise (· < ·) → (∀ x, x ∈ l1 ↔ x ∈ l2) → l1 = l2
  | [], [], _, _, _ => rfl
  | [], b :: l2, _, _, h => by have := (h b).2 (by simp); cases this
  | a :: l1, [], _, _, h => by have := (h a).1 (by simp); cases this
  | a :: l1, b :: l2, h1, h2, h => by
    rw [List.pairwise_cons] at h1 h2
    have e1 : a = b := by
      rcases List.mem_cons.1 ((h a).1 (by simp)) with e | e
      · exact e
      · rcases List.mem_cons.1 ((h b).2 (by simp)) with e' | e'
        · exact e'.symm
        · have := h1.1 b e'; have := h2.1 a e; omega
    subst e1
    congr 1
    refine nats_ext h1.2 h2.2 fun x => ?_
    constructor
    · intro hx
      rcases List.mem_cons.1 ((h x).1 (List.mem_cons_of_mem _ hx)) with e | e
      · subst e; have := h1.1 x hx; omega
      · exact e
    · intro hx
      rcases List.mem_cons.1 ((h x).2 (List.mem_cons_of_mem _ hx)) with e | e
      · subst e; have := h2.1 x hx; omega
      · exact e
theorem Gr.beq {M : Mem} {nv rv : V} {N : List NodeA} {R : List Int} (h : Gr M nv rv N R) : V.beq (.agg [nv, rv]) (.agg [nv, rv]) = true := by
  have hb : ∀ {M : Mem} {v : V} {z : Nat} {els : List (List V)}, Sl M v z els → V.beq v v = true := by
    rintro M v z els ⟨h, _⟩
    cases v with
    | slice => simp [V.beq]
    | nils => rfl
    | _ => simp [elems] at h
  obtain ⟨h1, els, h2, _⟩ := h
  simp [V.beq, V.beqs, hb h1, hb h2]
theorem asks_law {m : Mem} {nv rv : V} {N : List NodeA} {R : List Int} (hG : Gr m nv rv N R) (hf : Fits N R) (hrl : R.length ≤ 17592186044416) (hto : ∀ x, x ∈ N → x.to.length ≤ 17592186044416 ∧ 0 ≤ x.addr) : C S n_law31_GraphAsks [.agg [nv, rv]] m (fun r m' => r = .bool true ∧ Grow m m') := by
  refine C_body rfl rfl rfl ?_
  unfold law31_GraphAsks
  obtain ⟨hc1, hc2⟩ := hG.cells
  obtain ⟨_, els, hne, hel, _⟩ := id hG
  have hnl := hne.len
  rw [hel] at hnl
  have r0 : List.replicate 0 Blk.dead = [] := rfl
  have ha : ∀ x, x ∈ N → 0 ≤ x.addr := fun x hx => (hto x hx).2
  generalize hM0 : m ++ [Blk.cells true [[nv, rv]]] = M0
  have hg0 : Grow m M0 := by rw [← hM0]; exact (Grow.refl _).app
  have hT0 : M0[m.length]? = some (.cells true [[nv, rv]]) := by rw [← hM0]; simp
  have l0 := fun j k => load_at0 (k := k) (j := j) hT0
  by_cases h60 : (60 : Int) < N.length
  · simp (maxDischargeDepth := 30) only [hc1, hc2, hM0, l0, hnl, h60, amL, args0, Nat.reduceEqDiff, reduceCtorEq, ↓reduceIte, Nat.reduceAdd, resultsA, results1, Int.reduceNeg, splice, Nat.reduceLeDiff, part, fillA, fillE, Nat.reduceLT]
    refine lives_spec.mono ?_
    rintro _ _ ⟨rfl, rfl⟩
    simp (maxDischargeDepth := 30) only [aft_mk, amL, args0, Nat.reduceEqDiff, reduceCtorEq, ↓reduceIte, Nat.reduceAdd, resultsA, results1, Int.reduceNeg, splice, Nat.reduceLeDiff, part, fillA, fillE, Nat.reduceLT]
    exact hg0
  simp (maxDischargeDepth := 30) only [hc1, hc2, hM0, l0, hnl, h60, amL, args0, Nat.reduceEqDiff, reduceCtorEq, ↓reduceIte, Nat.reduceAdd, resultsA, results1, Int.reduceNeg, splice, Nat.reduceLeDiff, part, fillA, fillE, Nat.reduceLT]
  refine (Copy_spec (hG.grow hg0) (by omega) hrl fun x hx => (hto x hx).1).mono ?_
  rintro _ M1 ⟨hg1, nv', rv', rfl, hG1⟩
  obtain ⟨hd1, hd2⟩ := hG1.cells
  generalize hM2 : M1 ++ [Blk.cells true [[nv', rv']]] = M2
  have hg2 : Grow M1 M2 := by rw [← hM2]; exact (Grow.refl _).app
  have hQ2 : M2[M1.length]? = some (.cells true [[nv', rv']]) := by rw [← hM2]; simp
  have hG2 := hG1.grow hg2
  have hgm2 := (hg0.trans hg1).trans hg2
  have hT2 := (hg1.trans hg2).get hT0
  have q2 := fun j k => load_at0 (k := k) (j := j) hQ2
  simp (maxDischargeDepth := 30) only [aft_mk, hd1, hd2, hM2, q2, amL, args0, Nat.reduceEqDiff, reduceCtorEq, ↓reduceIte, Nat.reduceAdd, resultsA, results1, Int.reduceNeg, splice, Nat.reduceLeDiff, part, fillA, fillE, Nat.reduceLT]
  refine (Reached_spec hG2 hf).mono ?_
  rintro _ M3 ⟨hg3, hr3⟩
  have hgm3 := hgm2.trans hg3
  have hT3 := hg3.get hT2
  have hQ3 := hg3.get hQ2
  have l3 := fun j k => load_at0 (k := k) (j := j) hT3
  have hG3 := hG.grow hgm3
  cases hval : validG N R with
  | false =>
    rcases hr3 with ⟨_, rfl⟩ | ⟨hv, _⟩
    case inr => rw [hval] at hv; cases hv
    simp (maxDischargeDepth := 30) only [aft_mk, l3, amL, args0, Nat.reduceEqDiff, reduceCtorEq, ↓reduceIte, Nat.reduceAdd, resultsA, results1, Int.reduceNeg, splice, Nat.reduceLeDiff, part, fillA, fillE, Nat.reduceLT]
    refine (refReached_spec hG3 hf ha).mono ?_
    rintro _ M4 ⟨hg4, hr4⟩
    rcases hr4 with ⟨_, rfl⟩ | ⟨hv, _⟩
    case inr => rw [hval] at hv; cases hv
    have q4 := fun j k => load_at0 (k := k) (j := j) (hg4.get hQ3)
    simp (maxDischargeDepth := 30) only [aft_mk, q4, amL, args0, Nat.reduceEqDiff, reduceCtorEq, ↓reduceIte, Nat.reduceAdd, resultsA, results1, Int.reduceNeg, splice, Nat.reduceLeDiff, part, fillA, fillE, Nat.reduceLT]
    refine (Parts_spec (hG2.grow (hg3.trans hg4)) hf).mono ?_
    rintro _ M5 ⟨hg5, hr5⟩
    rcases hr5 with ⟨_, rfl⟩ | ⟨hv, _⟩
    case inr => rw [hval] at hv; cases hv
    have l5 := fun j k => load_at0 (k := k) (j := j) ((hg4.trans hg5).get hT3)
    simp (maxDischargeDepth := 30) only [aft_mk, l5, amL, args0, Nat.reduceEqDiff, reduceCtorEq, ↓reduceIte, Nat.reduceAdd, resultsA, results1, Int.reduceNeg, splice, Nat.reduceLeDiff, part, fillA, fillE, Nat.reduceLT]
    refine (refParts_spec (parts := fun p => p) (hG3.grow (hg4.trans hg5)) hf ha (fun h => by rw [hval] at h; cases h)).mono ?_
    rintro _ M6 ⟨hg6, hr6⟩
    rcases hr6 with ⟨_, rfl⟩ | ⟨hv, _⟩
    case inr => rw [hval] at hv; cases hv
    have q6 := fun j k => load_at0 (k := k) (j := j) (((hg4.trans hg5).trans hg6).get hQ3)
    simp (maxDischargeDepth := 30) only [aft_mk, q6, amL, args0, Nat.reduceEqDiff, reduceCtorEq, ↓reduceIte, Nat.reduceAdd, resultsA, results1, Int.reduceNeg, splice, Nat.reduceLeDiff, part, fillA, fillE, Nat.reduceLT]
    refine (Holders_spec (hG2.grow (hg3.trans ((hg4.trans hg5).trans hg6))) hf).mono ?_
    rintro _ M7 ⟨hg7, hr7⟩
    rcases hr7 with ⟨_, rfl⟩ | ⟨hv, _⟩
    case inr => rw [hval] at hv; cases hv
    have hg37 := ((hg4.trans hg5).trans hg6).trans hg7
    have l7 := fun j k => load_at0 (k := k) (j := j) (hg37.get hT3)
    simp (maxDischargeDepth := 30) only [aft_mk, l7, amL, args0, Nat.reduceEqDiff, reduceCtorEq, ↓reduceIte, Nat.reduceAdd, resultsA, results1, Int.reduceNeg, splice, Nat.reduceLeDiff, part, fillA, fillE, Nat.reduceLT]
    refine (refHolders_spec (hr := fun _ => 0) (hG3.grow hg37) hf ha (fun h => by rw [hval] at h; cases h)).mono ?_
    rintro _ M8 ⟨hg8, hr8⟩
    rcases hr8 with ⟨_, rfl⟩ | ⟨hv, _⟩
    case inr => rw [hval] at hv; cases hv
    have hg38 := hg37.trans hg8
    have sp : ∀ M : Mem, C S n_ref31_SamePlaces [.nils, .nils] M (fun r m' => r = .bool (decide (([] : List Int) = [])) ∧ m' = M) := fun M => SamePlaces_spec (.inl ⟨rfl, rfl⟩) (.inl ⟨rfl, rfl⟩) (by simp)
    simp (maxDischargeDepth := 30) only [aft_mk, r0, amL, args0, Nat.reduceEqDiff, reduceCtorEq, ↓reduceIte, Nat.reduceAdd, resultsA, results1, Int.reduceNeg, splice, Nat.reduceLeDiff, part, fillA, fillE, Nat.reduceLT]
    refine lives_spec.mono ?_
    rintro _ M9 ⟨rfl, rfl⟩
    simp (maxDischargeDepth := 30) only [aft_mk, amL, args0, Nat.reduceEqDiff, reduceCtorEq, ↓reduceIte, Nat.reduceAdd, resultsA, results1, Int.reduceNeg, splice, Nat.reduceLeDiff, part, fillA, fillE, Nat.reduceLT]
    refine (sp M8).mono ?_
    rintro _ M9 ⟨rfl, rfl⟩
    simp (maxDischargeDepth := 30) only [aft_mk, eq_self, amL, args0, Nat.reduceEqDiff, reduceCtorEq, ↓reduceIte, Nat.reduceAdd, resultsA, results1, Int.reduceNeg, splice, Nat.reduceLeDiff, part, fillA, fillE, Nat.reduceLT]
    refine (sp M9).mono ?_
    rintro _ M10 ⟨rfl, rfl⟩
    simp (maxDischargeDepth := 30) only [aft_mk, eq_self, amL, args0, Nat.reduceEqDiff, reduceCtorEq, ↓reduceIte, Nat.reduceAdd, resultsA, results1, Int.reduceNeg, splice, Nat.reduceLeDiff, part, fillA, fillE, Nat.reduceLT]
    refine (sp M10).mono ?_
    rintro _ M11 ⟨rfl, rfl⟩
    have l8 := fun j k => load_at0 (k := k) (j := j) (hg38.get hT3)
    have q8 := fun j k => load_at0 (k := k) (j := j) (hg38.get hQ3)
    simp (maxDischargeDepth := 30) only [aft_mk, eq_self, l8, q8, amL, args0, Nat.reduceEqDiff, reduceCtorEq, ↓reduceIte, Nat.reduceAdd, resultsA, results1, Int.reduceNeg, splice, Nat.reduceLeDiff, part, fillA, fillE, Nat.reduceLT]
    refine (Check_spec (hG2.grow (hg3.trans hg38)) hf).mono ?_
    rintro _ M12 ⟨rfl, hg12⟩
    have hg312 := hg38.trans hg12
    have l12 := fun j k => load_at0 (k := k) (j := j) (hg312.get hT3)
    have q12 := fun j k => load_at0 (k := k) (j := j) (hg312.get hQ3)
    have pL : part [nv, rv] 0 (some 2) = some (.agg [nv, rv]) := rfl
    rw [aftC_mk]
    refine ⟨?_, ?_⟩
    · simp [chkOk, wantedA, Arg.get, put, l12, pL, hG.beq]
    simp (maxDischargeDepth := 30) only [hval, Bool.false_eq_true, amL, args0, Nat.reduceEqDiff, reduceCtorEq, ↓reduceIte, Nat.reduceAdd, resultsA, results1, Int.reduceNeg, splice, Nat.reduceLeDiff, part, fillA, fillE, Nat.reduceLT]
    refine (refCheck_spec (hG3.grow hg312) hf ha).mono ?_
    rintro _ M13 ⟨rfl, hg13⟩
    have hg313 := hg312.trans hg13
    have l13 := fun j k => load_at0 (k := k) (j := j) (hg313.get hT3)
    have q13 := fun j k => load_at0 (k := k) (j := j) (hg313.get hQ3)
    simp (maxDischargeDepth := 30) only [aft_mk, hval, Bool.false_eq_true, eq_self, l13, q13, amL, args0, Nat.reduceEqDiff, reduceCtorEq, ↓reduceIte, Nat.reduceAdd, resultsA, results1, Int.reduceNeg, splice, Nat.reduceLeDiff, part, fillA, fillE, Nat.reduceLT]
    refine (Same_spec (hG2.grow (hg3.trans hg313)) (hG3.grow hg313) hf).mono ?_
    rintro _ M14 ⟨rfl, hg14⟩
    simp (maxDischargeDepth := 30) only [aft_mk, amL, args0, Nat.reduceEqDiff, reduceCtorEq, ↓reduceIte, Nat.reduceAdd, resultsA, results1, Int.reduceNeg, splice, Nat.reduceLeDiff, part, fillA, fillE, Nat.reduceLT]
    exact (hgm3.trans hg313).trans hg14
  | true =>
    rcases hr3 with ⟨hv, _⟩ | ⟨_, va, la, rfl, hva, hsa, hla, hma⟩
    · rw [hval] at hv; cases hv
    simp (maxDischargeDepth := 30) only [aft_mk, l3, amL, args0, Nat.reduceEqDiff, reduceCtorEq, ↓reduceIte, Nat.reduceAdd, resultsA, results1, Int.reduceNeg, splice, Nat.reduceLeDiff, part, fillA, fillE, Nat.reduceLT]
    refine (refReached_spec hG3 hf ha).mono ?_
    rintro _ M4 ⟨hg4, hr4⟩
    rcases hr4 with ⟨hv, _⟩ | ⟨_, vb, lb, rfl, hvb, hsb, hmb⟩
    · rw [hval] at hv; cases hv
    have hab : la = lb := nats_ext hsa hsb fun x => (hma x).trans (hmb x).symm
    subst hab
    have q4 := fun j k => load_at0 (k := k) (j := j) (hg4.get hQ3)
    simp (maxDischargeDepth := 30) only [aft_mk, q4, amL, args0, Nat.reduceEqDiff, reduceCtorEq, ↓reduceIte, Nat.reduceAdd, resultsA, results1, Int.reduceNeg, splice, Nat.reduceLeDiff, part, fillA, fillE, Nat.reduceLT]
    refine (Parts_spec (hG2.grow (hg3.trans hg4)) hf).mono ?_
    rintro _ M5 ⟨hg5, hr5⟩
    rcases hr5 with ⟨hv, _⟩ | ⟨_, vc, parts, rfl, hvc, hparts⟩
    · rw [hval] at hv; cases hv
    have l5 := fun j k => load_at0 (k := k) (j := j) ((hg4.trans hg5).get hT3)
    simp (maxDischargeDepth := 30) only [aft_mk, l5, amL, args0, Nat.reduceEqDiff, reduceCtorEq, ↓reduceIte, Nat.reduceAdd, resultsA, results1, Int.reduceNeg, splice, Nat.reduceLeDiff, part, fillA, fillE, Nat.reduceLT]
    refine (refParts_spec (parts := parts) (hG3.grow (hg4.trans hg5)) hf ha (fun _ => hparts)).mono ?_
    rintro _ M6 ⟨hg6, hr6⟩
    rcases hr6 with ⟨hv, _⟩ | ⟨_, vd, rfl, hvd⟩
    · rw [hval] at hv; cases hv
    have q6 := fun j k => load_at0 (k := k) (j := j) (((hg4.trans hg5).trans hg6).get hQ3)
    simp (maxDischargeDepth := 30) only [aft_mk, q6, amL, args0, Nat.reduceEqDiff, reduceCtorEq, ↓reduceIte, Nat.reduceAdd, resultsA, results1, Int.reduceNeg, splice, Nat.reduceLeDiff, part, fillA, fillE, Nat.reduceLT]
    refine (Holders_spec (hG2.grow (hg3.trans ((hg4.trans hg5).trans hg6))) hf).mono ?_
    rintro _ M7 ⟨hg7, hr7⟩
    rcases hr7 with ⟨hv, _⟩ | ⟨_, ve, hr, rfl, hve, hH⟩
    · rw [hval] at hv; cases hv
    have hg37 := ((hg4.trans hg5).trans hg6).trans hg7
    have l7 := fun j k => load_at0 (k := k) (j := j) (hg37.get hT3)
    simp (maxDischargeDepth := 30) only [aft_mk, l7, amL, args0, Nat.reduceEqDiff, reduceCtorEq, ↓reduceIte, Nat.reduceAdd, resultsA, results1, Int.reduceNeg, splice, Nat.reduceLeDiff, part, fillA, fillE, Nat.reduceLT]
    refine (refHolders_spec (hr := hr) (hG3.grow hg37) hf ha (fun _ => hH)).mono ?_
    rintro _ M8 ⟨hg8, hr8⟩
    rcases hr8 with ⟨hv, _⟩ | ⟨_, vf, rfl, hvf⟩
    · rw [hval] at hv; cases hv
    have hg38 := hg37.trans hg8
    have hln := hla
    rw [nats_ints] at hva hvb
    rw [natF_i64] at hvc hvd
    rw [intF_i64] at hve hvf
    have s1 := SamePlaces_spec (m := M8) (.inl (hva.grow hg38)) (.inl (hvb.grow (((hg5.trans hg6).trans hg7).trans hg8))) (by simp; omega)
    have s2 := SamePlaces_spec (m := M8) (.inl (hvc.grow ((hg6.trans hg7).trans hg8))) (.inl (hvd.grow (hg7.trans hg8))) (by simp; omega)
    have s3 := SamePlaces_spec (m := M8) (.inl (hve.grow hg8)) (.inl hvf) (by simp; omega)
    simp (maxDischargeDepth := 30) only [aft_mk, r0, amL, args0, Nat.reduceEqDiff, reduceCtorEq, ↓reduceIte, Nat.reduceAdd, resultsA, results1, Int.reduceNeg, splice, Nat.reduceLeDiff, part, fillA, fillE, Nat.reduceLT]
    refine lives_spec.mono ?_
    rintro _ M9 ⟨rfl, rfl⟩
    simp (maxDischargeDepth := 30) only [aft_mk, amL, args0, Nat.reduceEqDiff, reduceCtorEq, ↓reduceIte, Nat.reduceAdd, resultsA, results1, Int.reduceNeg, splice, Nat.reduceLeDiff, part, fillA, fillE, Nat.reduceLT]
    refine s1.mono ?_
    rintro _ M9 ⟨rfl, rfl⟩
    simp (maxDischargeDepth := 30) only [aft_mk, eq_self, amL, args0, Nat.reduceEqDiff, reduceCtorEq, ↓reduceIte, Nat.reduceAdd, resultsA, results1, Int.reduceNeg, splice, Nat.reduceLeDiff, part, fillA, fillE, Nat.reduceLT]
    refine s2.mono ?_
    rintro _ M10 ⟨rfl, rfl⟩
    simp (maxDischargeDepth := 30) only [aft_mk, eq_self, amL, args0, Nat.reduceEqDiff, reduceCtorEq, ↓reduceIte, Nat.reduceAdd, resultsA, results1, Int.reduceNeg, splice, Nat.reduceLeDiff, part, fillA, fillE, Nat.reduceLT]
    refine s3.mono ?_
    rintro _ M11 ⟨rfl, rfl⟩
    have l8 := fun j k => load_at0 (k := k) (j := j) (hg38.get hT3)
    have q8 := fun j k => load_at0 (k := k) (j := j) (hg38.get hQ3)
    simp (maxDischargeDepth := 30) only [aft_mk, eq_self, l8, q8, amL, args0, Nat.reduceEqDiff, reduceCtorEq, ↓reduceIte, Nat.reduceAdd, resultsA, results1, Int.reduceNeg, splice, Nat.reduceLeDiff, part, fillA, fillE, Nat.reduceLT]
    refine (Check_spec (hG2.grow (hg3.trans hg38)) hf).mono ?_
    rintro _ M12 ⟨rfl, hg12⟩
    have hg312 := hg38.trans hg12
    have l12 := fun j k => load_at0 (k := k) (j := j) (hg312.get hT3)
    have q12 := fun j k => load_at0 (k := k) (j := j) (hg312.get hQ3)
    have pL : part [nv, rv] 0 (some 2) = some (.agg [nv, rv]) := rfl
    rw [aftC_mk]
    refine ⟨?_, ?_⟩
    · simp [chkOk, wantedA, Arg.get, put, l12, pL, hG.beq]
    simp (maxDischargeDepth := 30) only [hval, amL, args0, Nat.reduceEqDiff, reduceCtorEq, ↓reduceIte, Nat.reduceAdd, resultsA, results1, Int.reduceNeg, splice, Nat.reduceLeDiff, part, fillA, fillE, Nat.reduceLT]
    refine (refCheck_spec (hG3.grow hg312) hf ha).mono ?_
    rintro _ M13 ⟨rfl, hg13⟩
    have hg313 := hg312.trans hg13
    have l13 := fun j k => load_at0 (k := k) (j := j) (hg313.get hT3)
    have q13 := fun j k => load_at0 (k := k) (j := j) (hg313.get hQ3)
    simp (maxDischargeDepth := 30) only [aft_mk, hval, eq_self, l13, q13, amL, args0, Nat.reduceEqDiff, reduceCtorEq, ↓reduceIte, Nat.reduceAdd, resultsA, results1, Int.reduceNeg, splice, Nat.reduceLeDiff, part, fillA, fillE, Nat.reduceLT]
    refine (Same_spec (hG2.grow (hg3.trans hg313)) (hG3.grow hg313) hf).mono ?_
    rintro _ M14 ⟨rfl, hg14⟩
    simp (maxDischargeDepth := 30) only [aft_mk, amL, args0, Nat.reduceEqDiff, reduceCtorEq, ↓reduceIte, Nat.reduceAdd, resultsA, results1, Int.reduceNeg, splice, Nat.reduceLeDiff, part, fillA, fillE, Nat.reduceLT]
    exact (hgm3.trans hg313).trans hg14
end Go.AM.G
