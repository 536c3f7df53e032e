/- Part of the proof: contracts of functions of the given program on an abstract machine. -/
import Derived.Test.YtnpefpiggklimaaGraphU
set_option linter.unusedVariables false
set_option linter.unusedSimpArgs false
set_option maxRecDepth 100000
namespace Go.AM.G
open Go Go.AM
theorem Sl.beq {m : Mem} {v : V} {z : Nat} {els : List (List V)} (h : Sl m v z els) : V.beq v v = true := by
  rcases h.cases with ⟨rfl, _⟩ | ⟨b, i, len, cap, ex, rfl⟩
  · rfl
  · simp [V.beq]
theorem wsum_bnd {N : List NodeA} {R : List Int} (h : validG N R = true) : ∀ l : List Nat, 0 ≤ (l.map (wd N)).sum ∧ (l.map (wd N)).sum ≤ 49 * l.length
  | [] => by simp
  | a :: l => by
    have := wsum_bnd h l
    have := wd_bnd h a
    simp; omega
theorem sumOf_spec {m : Mem} {nv rv v : V} {N : List NodeA} {R : List Int} {l : List Nat} (hG : Gr m nv rv N R) (hval : validG N R = true) (hv : Sl m v 1 (nats l)) (hl : ∀ p, p ∈ l → p < N.length) (hll : l.length ≤ 5000) : C S n_law31_sumOf [.agg [nv, rv], v] m (fun r m' => r = .int .i64 (l.map (wd N)).sum ∧ Grow m m') := by
  refine C_body rfl rfl rfl ?_
  unfold law31_sumOf
  obtain ⟨hc1, hc2⟩ := hG.cells
  have hnl : (nats l).length = l.length := by simp
  have hvl := hv.len
  rw [hnl] at hvl
  simp (maxDischargeDepth := 30) only [hc1, hc2, hvl, amL, args0, Nat.reduceEqDiff, reduceCtorEq, ↓reduceIte, Nat.reduceAdd, resultsA, results1, Int.reduceNeg, splice, Nat.reduceLeDiff, part, fillA, fillE, Nat.reduceLT]
  generalize hM1 : m ++ [Blk.cells true [[nv, rv]]] = M1
  have hg1 : Grow m M1 := by rw [← hM1]; exact (Grow.refl _).app
  have hT : M1[m.length]? = some (.cells true [[nv, rv]]) := by rw [← hM1]; simp
  obtain ⟨_, els, hne, hel, hnds⟩ := hG.grow hg1
  have hv1 := hv.grow hg1
  have ldT := fun j k => load_at0 (k := k) (j := j) hT
  let I := fun (k : Nat) (fr : Frame) (M : Mem) => ∃ i : Nat, i ≤ l.length ∧ k = l.length - i ∧ fr 2 = .ptr m.length 0 0 ∧ fr 5 = .int .i64 ((l.take i).map (wd N)).sum ∧ fr 8 = v ∧ fr 9 = .int .i64 l.length ∧ fr 10 = .int .i64 (i : Nat) ∧ M = M1
  refine W_loop I ?_ l.length ?_
  · rintro k fr M ⟨i, hi, rfl, f2, f5, f8, f9, f10, rfl⟩
    unfold law31_sumOf_l0
    simp (maxDischargeDepth := 30) only [f2, f5, f8, f9, f10, amL, args0, Nat.reduceEqDiff, reduceCtorEq, ↓reduceIte, Nat.reduceAdd, resultsA, results1, Int.reduceNeg, splice, Nat.reduceLeDiff, part, fillA, fillE, Nat.reduceLT]
    by_cases hil : i < l.length
    · have hil' : (i : Int) < l.length := by omega
      obtain ⟨p, hp⟩ : ∃ p, l[i]? = some p := ⟨_, List.getElem?_eq_getElem hil⟩
      have hpn := hl p (List.mem_of_getElem? hp)
      have ix := hv1.index (ki := .i64) (n := i) (by omega) (by omega)
      have ld := fun o k => hv1.load (o := o) (k := k) (nats_get hp)
      obtain ⟨nd, hnd⟩ : ∃ nd, N[p]? = some nd := ⟨_, List.getElem?_eq_getElem hpn⟩
      obtain ⟨tv, hte, htv⟩ := hnds p nd hnd
      have ixn := hne.index (ki := .i64) (n := p) (by omega) (by omega)
      have ldn := fun o k => hne.load (o := o) (k := k) hte
      simp only [Int.toNat_natCast] at ix ixn
      have wi : IntKind.i64.wrap ((i : Int) + 1) = ((i + 1 : Nat) : Int) := by rw [wrap_i64] <;> omega
      have hb := wsum_bnd hval (l.take i)
      have hwb := wd_bnd hval p
      have hwe := wd_get hnd
      have hlt : (l.take i).length ≤ 5000 := by simp; omega
      have ww : IntKind.i64.wrap (((l.take i).map (wd N)).sum + nd.words) = ((l.take (i + 1)).map (wd N)).sum := by
        obtain ⟨h1, h2⟩ := List.getElem?_eq_some_iff.1 hp
        have e : ((l.take (i + 1)).map (wd N)).sum = ((l.take i).map (wd N)).sum + nd.words := by
          rw [List.take_succ_eq_append_getElem h1, h2, List.map_append, List.sum_append]
          simp only [List.map_cons, List.map_nil, List.sum_cons, List.sum_nil, Int.add_zero, hwe]
        rw [e, wrap_i64] <;> omega
      simp (maxDischargeDepth := 30) only [hil', f2, f5, f8, f9, f10, ix, ld, ldT, ixn, ldn, wi, ww, amL, args0, Nat.reduceEqDiff, reduceCtorEq, ↓reduceIte, Nat.reduceAdd, resultsA, results1, Int.reduceNeg, splice, Nat.reduceLeDiff, part, fillA, fillE, Nat.reduceLT]
      refine ⟨_, ?_, i + 1, by omega, rfl, by simp (maxDischargeDepth := 30) only [f2, amL, args0, Nat.reduceEqDiff, reduceCtorEq, ↓reduceIte, Nat.reduceAdd, resultsA, results1, Int.reduceNeg, splice, Nat.reduceLeDiff, part, fillA, fillE, Nat.reduceLT], by simp (maxDischargeDepth := 30) only [amL, args0, Nat.reduceEqDiff, reduceCtorEq, ↓reduceIte, Nat.reduceAdd, resultsA, results1, Int.reduceNeg, splice, Nat.reduceLeDiff, part, fillA, fillE, Nat.reduceLT], by simp (maxDischargeDepth := 30) only [f8, amL, args0, Nat.reduceEqDiff, reduceCtorEq, ↓reduceIte, Nat.reduceAdd, resultsA, results1, Int.reduceNeg, splice, Nat.reduceLeDiff, part, fillA, fillE, Nat.reduceLT], by simp (maxDischargeDepth := 30) only [f9, amL, args0, Nat.reduceEqDiff, reduceCtorEq, ↓reduceIte, Nat.reduceAdd, resultsA, results1, Int.reduceNeg, splice, Nat.reduceLeDiff, part, fillA, fillE, Nat.reduceLT], by simp (maxDischargeDepth := 30) only [amL, args0, Nat.reduceEqDiff, reduceCtorEq, ↓reduceIte, Nat.reduceAdd, resultsA, results1, Int.reduceNeg, splice, Nat.reduceLeDiff, part, fillA, fillE, Nat.reduceLT], rfl⟩
      omega
    · have hil' : ¬ (i : Int) < l.length := by omega
      have hie : i = l.length := by omega
      rw [hie, List.take_length] at f5
      simp (maxDischargeDepth := 30) only [hil', f2, f5, f8, f9, f10, amL, args0, Nat.reduceEqDiff, reduceCtorEq, ↓reduceIte, Nat.reduceAdd, resultsA, results1, Int.reduceNeg, splice, Nat.reduceLeDiff, part, fillA, fillE, Nat.reduceLT]
      exact hg1
  · exact ⟨0, Nat.zero_le _, rfl, by simp (maxDischargeDepth := 30) only [amL, args0, Nat.reduceEqDiff, reduceCtorEq, ↓reduceIte, Nat.reduceAdd, resultsA, results1, Int.reduceNeg, splice, Nat.reduceLeDiff, part, fillA, fillE, Nat.reduceLT], by simp (maxDischargeDepth := 30) only [amL, args0, Nat.reduceEqDiff, reduceCtorEq, ↓reduceIte, Nat.reduceAdd, resultsA, results1, Int.reduceNeg, splice, Nat.reduceLeDiff, part, fillA, fillE, Nat.reduceLT]; rfl, by simp (maxDischargeDepth := 30) only [amL, args0, Nat.reduceEqDiff, reduceCtorEq, ↓reduceIte, Nat.reduceAdd, resultsA, results1, Int.reduceNeg, splice, Nat.reduceLeDiff, part, fillA, fillE, Nat.reduceLT], by simp (maxDischargeDepth := 30) only [amL, args0, Nat.reduceEqDiff, reduceCtorEq, ↓reduceIte, Nat.reduceAdd, resultsA, results1, Int.reduceNeg, splice, Nat.reduceLeDiff, part, fillA, fillE, Nat.reduceLT], by simp (maxDischargeDepth := 30) only [amL, args0, Nat.reduceEqDiff, reduceCtorEq, ↓reduceIte, Nat.reduceAdd, resultsA, results1, Int.reduceNeg, splice, Nat.reduceLeDiff, part, fillA, fillE, Nat.reduceLT]; rfl, rfl⟩
theorem wo_fits {N : List NodeA} {R : List Int} (hf : Fits N R) (y : Nat) : Fits (woN N y) (restI y R) := by
  obtain ⟨h1, h2, h3⟩ := hf
  refine ⟨?_, Nat.lt_of_le_of_lt restI_len h2, fun x hx => ?_⟩
  · unfold woN
    rw [List.length_map]
    exact Nat.lt_of_le_of_lt (List.length_eraseIdx_le _ _) h1
  · unfold woN at hx
    obtain ⟨z, hz, rfl⟩ := List.mem_map.1 hx
    exact Nat.lt_of_le_of_lt restI_len (h3 z (List.mem_of_mem_eraseIdx hz))
theorem held_spec {m : Mem} {nv rv : V} {N : List NodeA} {R : List Int} (hG : Gr m nv rv N R) (hf : Fits N R) (x : Int) : C S n_law31_GraphHeld [.agg [nv, rv], .int .i64 x] m (fun r m' => r = .bool true ∧ Grow m m') := by
  refine C_body rfl rfl rfl ?_
  unfold law31_GraphHeld
  obtain ⟨hc1, hc2⟩ := hG.cells
  simp (maxDischargeDepth := 30) only [hc1, hc2, amL, args0, Nat.reduceEqDiff, reduceCtorEq, ↓reduceIte, Nat.reduceAdd, resultsA, results1, Int.reduceNeg, splice, Nat.reduceLeDiff, part, fillA, fillE, Nat.reduceLT]
  refine lives_spec.mono ?_
  rintro _ _ ⟨rfl, rfl⟩
  generalize hM0 : m ++ [Blk.cells true [[nv, rv]]] = M0
  have hg0 : Grow m M0 := by rw [← hM0]; exact (Grow.refl _).app
  have hT : M0[m.length]? = some (.cells true [[nv, rv]]) := by rw [← hM0]; simp
  have lT : ∀ M, Grow M0 M → ∀ j k, loadV M k (.ptr m.length 0 j) = part [nv, rv] j k := fun M hM j k => load_at0 (hM.get hT)
  have lT0 := lT M0 (Grow.refl _)
  obtain ⟨_, els0, hne0, hel0, _⟩ := id hG
  by_cases h60 : (60 : Int) < N.length
  · simp (maxDischargeDepth := 30) only [aft_mk, lT0, (hne0.grow hg0).len, hel0, h60, Bool.not_true, amL, args0, Nat.reduceEqDiff, reduceCtorEq, ↓reduceIte, Nat.reduceAdd, resultsA, results1, Int.reduceNeg, splice, Nat.reduceLeDiff, part, fillA, fillE, Nat.reduceLT]
    exact hg0
  let hl : Nat → Bool := fun p => @decide (Live N R p ∧ ¬ ∃ j, Pth (toN N) (rootsN R) x j p) (Classical.propDecidable _)
  have hhl : ∀ p, p < N.length → (hl p = true ↔ Live N R p ∧ ¬ ∃ j, Pth (toN N) (rootsN R) x j p) := fun p _ => @decide_eq_true_iff _ (Classical.propDecidable _)
  simp (maxDischargeDepth := 30) only [aft_mk, lT0, (hne0.grow hg0).len, hel0, h60, Bool.not_true, hc1, hc2, amL, args0, Nat.reduceEqDiff, reduceCtorEq, ↓reduceIte, Nat.reduceAdd, resultsA, results1, Int.reduceNeg, splice, Nat.reduceLeDiff, part, fillA, fillE, Nat.reduceLT]
  refine (Retained_spec (hG.grow hg0) hf x hl hhl).mono ?_
  rintro _ M1 ⟨hg1, rfl⟩
  have lT1 := lT M1 hg1
  have hG1 := hG.grow (hg0.trans hg1)
  cases hval : validG N R with
  | false =>
    simp (maxDischargeDepth := 30) only [aft_mk, Bool.false_eq_true, lT1, hc1, hc2, amL, args0, Nat.reduceEqDiff, reduceCtorEq, ↓reduceIte, Nat.reduceAdd, resultsA, results1, Int.reduceNeg, splice, Nat.reduceLeDiff, part, fillA, fillE, Nat.reduceLT]
    refine (Without_spec hG1 hf x).mono ?_
    rintro r M2 ⟨hg2, hr⟩
    rw [hval] at hr
    simp only [Bool.false_eq_true, if_false] at hr
    subst hr
    have c2 : ¬ (2 : Int) = 0 := by decide
    simp (maxDischargeDepth := 30) only [aft_mk, c2, amL, args0, Nat.reduceEqDiff, reduceCtorEq, ↓reduceIte, Nat.reduceAdd, resultsA, results1, Int.reduceNeg, splice, Nat.reduceLeDiff, part, fillA, fillE, Nat.reduceLT]
    exact ((hg0.trans hg1).trans hg2).app
  | true =>
    by_cases hx : x < 0 ∨ (N.length : Int) ≤ x
    · simp (maxDischargeDepth := 30) only [aft_mk, hx, lT1, hc1, hc2, amL, args0, Nat.reduceEqDiff, reduceCtorEq, ↓reduceIte, Nat.reduceAdd, resultsA, results1, Int.reduceNeg, splice, Nat.reduceLeDiff, part, fillA, fillE, Nat.reduceLT]
      refine (Without_spec hG1 hf x).mono ?_
      rintro r M2 ⟨hg2, hr⟩
      rw [hval, if_pos rfl, if_pos hx] at hr
      subst hr
      have c2 : ¬ (1 : Int) = 0 := by decide
      simp (maxDischargeDepth := 30) only [aft_mk, c2, amL, args0, Nat.reduceEqDiff, reduceCtorEq, ↓reduceIte, Nat.reduceAdd, resultsA, results1, Int.reduceNeg, splice, Nat.reduceLeDiff, part, fillA, fillE, Nat.reduceLT]
      exact ((hg0.trans hg1).trans hg2).app
    obtain ⟨y, rfl⟩ : ∃ y : Nat, x = y := ⟨x.toNat, by omega⟩
    have hyn : y < N.length := by omega
    simp (maxDischargeDepth := 30) only [aft_mk, hx, lT1, hc1, hc2, amL, args0, Nat.reduceEqDiff, reduceCtorEq, ↓reduceIte, Nat.reduceAdd, resultsA, results1, Int.reduceNeg, splice, Nat.reduceLeDiff, part, fillA, fillE, Nat.reduceLT]
    refine (Without_spec hG1 hf y).mono ?_
    rintro r M2 ⟨hg2, hr⟩
    rw [hval, if_pos rfl, if_neg hx] at hr
    obtain ⟨nv', rv', rfl, hGx⟩ := hr
    simp only [Int.toNat_natCast] at hGx
    obtain ⟨hd1, hd2⟩ := hGx.cells
    have hgm2 := (hg0.trans hg1).trans hg2
    have hxv := wo_valid hval hyn
    have hxf := wo_fits hf y
    have c00 : ¬ ¬ (0 : Int) = 0 := by omega
    have lT2 : ∀ j k, loadV (M2 ++ [Blk.cells true [[nv', rv']]]) k (.ptr m.length 0 j) = part [nv, rv] j k := lT _ ((hg1.trans hg2).app)
    simp (maxDischargeDepth := 30) only [aft_mk, c00, hd1, hd2, lT2, hc1, hc2, amL, args0, Nat.reduceEqDiff, reduceCtorEq, ↓reduceIte, Nat.reduceAdd, resultsA, results1, Int.reduceNeg, splice, Nat.reduceLeDiff, part, fillA, fillE, Nat.reduceLT]
    generalize hM3 : M2 ++ [Blk.cells true [[nv', rv']]] = M3
    have hg3 : Grow M2 M3 := by rw [← hM3]; exact (Grow.refl _).app
    have hX3 : M3[M2.length]? = some (.cells true [[nv', rv']]) := by rw [← hM3]; simp
    refine (Reached_spec ((hG.grow hgm2).grow hg3) hf).mono ?_
    rintro r4 M4 ⟨hg4, hP4⟩
    rcases hP4 with ⟨hv2, _⟩ | ⟨_, lv, l, rfl, hlv, hsrt, hll, hlm⟩
    · rw [hval] at hv2; cases hv2
    have lX4 : ∀ M, Grow M3 M → ∀ j k, loadV M k (.ptr M2.length 0 j) = part [nv', rv'] j k := fun M hM j k => load_at0 (hM.get hX3)
    have lX := lX4 M4 hg4
    simp (maxDischargeDepth := 30) only [aft_mk, lX, hd1, hd2, amL, args0, Nat.reduceEqDiff, reduceCtorEq, ↓reduceIte, Nat.reduceAdd, resultsA, results1, Int.reduceNeg, splice, Nat.reduceLeDiff, part, fillA, fillE, Nat.reduceLT]
    refine (Reached_spec ((hGx.grow hg3).grow hg4) hxf).mono ?_
    rintro r5 M5 ⟨hg5, hP5⟩
    rcases hP5 with ⟨hv2, _⟩ | ⟨_, lv', l', rfl, hlv', hsrt', hll', hlm'⟩
    · rw [hxv] at hv2; cases hv2
    have lX5 := lX4 M5 (hg4.trans hg5)
    have c0 : ((0 : Int) = 0) = True := by simp
    have r0 : List.replicate 0 Blk.dead = [] := rfl
    simp (maxDischargeDepth := 30) only [aft_mk, lX5, hd1, hd2, c0, r0, List.append_nil, amL, args0, Nat.reduceEqDiff, reduceCtorEq, ↓reduceIte, Nat.reduceAdd, resultsA, results1, Int.reduceNeg, splice, Nat.reduceLeDiff, part, fillA, fillE, Nat.reduceLT]
    refine (Check_spec (((hGx.grow hg3).grow hg4).grow hg5) hxf).mono ?_
    rintro _ M6 ⟨rfl, hg6⟩
    have lX6 := lX4 M6 ((hg4.trans hg5).trans hg6)
    have lT6 := lT M6 (((((hg1.trans hg2).trans hg3).trans hg4).trans hg5).trans hg6)
    simp (maxDischargeDepth := 30) only [aft_mk, hxv, lX6, lT6, hd1, hd2, hc1, hc2, c0, amL, args0, Nat.reduceEqDiff, reduceCtorEq, ↓reduceIte, Nat.reduceAdd, resultsA, results1, Int.reduceNeg, splice, Nat.reduceLeDiff, part, fillA, fillE, Nat.reduceLT]
    have hgm6 := (((hgm2.trans hg3).trans hg4).trans hg5).trans hg6
    refine (sumOf_spec (hG.grow hgm6) hval ((hlv.grow hg5).grow hg6) (fun p hp => ((hlm p).1 hp).1) (by omega)).mono ?_
    rintro _ M7 ⟨rfl, hg7⟩
    have lX7 := lX4 M7 (((hg4.trans hg5).trans hg6).trans hg7)
    have hb7 : V.beqs [nv', rv'] [nv', rv'] = true := by
      obtain ⟨hb1, els, hb2, _⟩ := hGx
      simp [V.beqs, Sl.beq hb1, Sl.beq hb2]
    have hpt : part [nv', rv'] 0 (some 2) = some (.agg [nv', rv']) := rfl
    rw [aftC_mk]
    refine ⟨by simp [chkOk, wantedA, put_apply, Arg.get, lX7, hpt, hb7, V.beq], ?_⟩
    simp (maxDischargeDepth := 30) only [amL, args0, Nat.reduceEqDiff, reduceCtorEq, ↓reduceIte, Nat.reduceAdd, resultsA, results1, Int.reduceNeg, splice, Nat.reduceLeDiff, part, fillA, fillE, Nat.reduceLT]
    have hxl := woN_len hyn
    refine (sumOf_spec ((((((hGx.grow hg3).grow hg4).grow hg5).grow hg6).grow hg7)) hxv ((hlv'.grow hg6).grow hg7) (fun p hp => ((hlm' p).1 hp).1) (by omega)).mono ?_
    rintro _ M8 ⟨rfl, hg8⟩
    -- the words
    let lvB : Nat → Bool := fun p => @decide (Live N R p) (Classical.propDecidable _)
    let avB : Nat → Bool := fun p => @decide (∃ j, Pth (toN N) (rootsN R) y j p) (Classical.propDecidable _)
    let lxB : Nat → Bool := fun p => @decide (Live (woN N y) (restI y R) p) (Classical.propDecidable _)
    have hlvB : ∀ p, lvB p = true ↔ Live N R p := fun p => @decide_eq_true_iff _ (Classical.propDecidable _)
    have havB : ∀ p, avB p = true ↔ ∃ j, Pth (toN N) (rootsN R) y j p := fun p => @decide_eq_true_iff _ (Classical.propDecidable _)
    have hlxB : ∀ p, lxB p = true ↔ Live (woN N y) (restI y R) p := fun p => @decide_eq_true_iff _ (Classical.propDecidable _)
    have s1 : (l.map (wd N)).sum = sumW N lvB N.length := sum_rising hsrt lvB fun p => by rw [hlm, hlvB]
    have s2 : (l'.map (wd (woN N y))).sum = sumW (woN N y) lxB (woN N y).length := sum_rising hsrt' lxB fun p => by rw [hlm', hlxB]
    have s3 : sumW (woN N y) lxB (woN N y).length = sumW N avB N.length := by
      refine sum_wo hyn lxB avB (fun p _ => ?_) ?_
      · rw [Bool.eq_iff_iff, hlxB, havB, wo_live hval]
      · cases e : avB y with
        | false => rfl
        | true =>
          obtain ⟨j, hj⟩ := (havB y).1 e
          exfalso
          cases hj <;> simp_all
    have s4 : sumW N lvB N.length - sumW N avB N.length = sumW N hl N.length := by
      refine sum_split lvB avB hl _ fun p hp => ⟨fun h => ?_, ?_⟩
      · rw [hlvB]
        obtain ⟨j, hj⟩ := (havB p).1 h
        exact pth_rch' hj
      · rw [hhl p hp, hlvB, ← havB]
        simp
    have b1 := sumW_bnd hval lvB N.length
    have b2 := sumW_bnd hval avB N.length
    have ww : IntKind.i64.wrap ((l.map (wd N)).sum - (l'.map (wd (woN N y))).sum) = sumW N hl N.length := by
      rw [s1, s2, s3, s4, wrap_i64] <;> omega
    simp (maxDischargeDepth := 30) only [aft_mk, ww, r0, List.append_nil, amL, args0, Nat.reduceEqDiff, reduceCtorEq, ↓reduceIte, Nat.reduceAdd, resultsA, results1, Int.reduceNeg, splice, Nat.reduceLeDiff, part, fillA, fillE, Nat.reduceLT]
    exact (hgm6.trans hg7).trans hg8
end Go.AM.G
