/- Part of the proof: contracts of functions of the given program on an abstract machine. -/
import Derived.Test.YtnpefpiggklimaaGraphWay
set_option linter.unusedVariables false
set_option linter.unusedSimpArgs false
set_option maxRecDepth 100000
namespace Go.AM.G
open Go Go.AM
theorem mem_ints' {l : List Nat} {p : Nat} : ((p : Nat) : Int) ∈ ints' l ↔ p ∈ l := by
  constructor
  · intro h
    obtain ⟨x, hx, e⟩ := List.mem_map.1 h
    have : x = p := by omega
    exact this ▸ hx
  · exact fun h => List.mem_map.2 ⟨p, h, rfl⟩
theorem hasN_spec {m : Mem} {v : V} {l : List Nat} (x : Nat) (hv : SlR m v 1 (nats l)) (hl : l.length < 2 ^ 60) : C S n_law31_hasPlace [v, .int .i64 (x : Nat)] m (fun r m' => r = .bool (decide (x ∈ l)) ∧ m = m') := by
  have h1 : SlR m v 1 (i64s (ints' l)) := by rw [← nats_ints]; exact hv
  refine (hasPlace_spec (x : Int) h1 (by simp; exact hl)).mono ?_
  rintro _ _ ⟨rfl, rfl⟩
  exact ⟨by simp only [mem_ints'], rfl⟩
theorem far_live {N : List NodeA} {R : List Int} {far : Nat → Int} (h : FarOK (toN N) (rootsN R) N.length far) (p : Nat) : 0 ≤ far p ↔ Live N R p := by
  unfold Live
  rw [← pth_rch]
  exact ⟨fun hp => ⟨_, (h.1 p hp).1⟩, fun ⟨k, hk⟩ => (h.2 k p hk).1⟩
theorem way_law {m : Mem} {nv rv : V} {N : List NodeA} {R : List Int} (hG : Gr m nv rv N R) (hf : Fits N R) (x : Int) : C S n_law31_GraphWay [.agg [nv, rv], .int .i64 x] m (fun r m' => r = .bool true ∧ Grow m m') := by
  refine C_body rfl rfl rfl ?_
  unfold law31_GraphWay
  obtain ⟨hc1, hc2⟩ := hG.cells
  simp (maxDischargeDepth := 30) only [hc1, hc2, amL, args0, Nat.reduceEqDiff, reduceCtorEq, ↓reduceIte, Nat.reduceAdd, resultsA, results1, Int.reduceNeg, splice, Nat.reduceLeDiff, part, fillA, fillE, Nat.reduceLT]
  refine lives_spec.mono ?_
  rintro _ _ ⟨rfl, rfl⟩
  generalize hM0 : m ++ [Blk.cells true [[nv, rv]]] = M0
  have hg0 : Grow m M0 := by rw [← hM0]; exact (Grow.refl _).app
  have hT : M0[m.length]? = some (.cells true [[nv, rv]]) := by rw [← hM0]; simp
  have lT : ∀ M, Grow M0 M → ∀ j k, loadV M k (.ptr m.length 0 j) = part [nv, rv] j k := fun M hM j k => load_at0 (hM.get hT)
  have lT0 := lT M0 (Grow.refl _)
  have r0 : List.replicate 0 Blk.dead = [] := rfl
  obtain ⟨_, els0, hne0, hel0, _⟩ := id hG
  by_cases h60 : (60 : Int) < N.length
  · simp (maxDischargeDepth := 30) only [aft_mk, lT0, (hne0.grow hg0).len, hel0, h60, Bool.not_true, amL, args0, Nat.reduceEqDiff, reduceCtorEq, ↓reduceIte, Nat.reduceAdd, resultsA, results1, Int.reduceNeg, splice, Nat.reduceLeDiff, part, fillA, fillE, Nat.reduceLT]
    exact hg0
  simp (maxDischargeDepth := 30) only [aft_mk, lT0, (hne0.grow hg0).len, hel0, h60, Bool.not_true, hc1, hc2, amL, args0, Nat.reduceEqDiff, reduceCtorEq, ↓reduceIte, Nat.reduceAdd, resultsA, results1, Int.reduceNeg, splice, Nat.reduceLeDiff, part, fillA, fillE, Nat.reduceLT]
  refine (Way_spec (hG.grow hg0) hf x).mono ?_
  rintro r1 M1 ⟨hg1, hr1⟩
  have lT1 := lT M1 hg1
  have hgm1 := hg0.trans hg1
  cases hval : validG N R with
  | false =>
    rw [hval] at hr1
    simp only [Bool.false_eq_true, if_false] at hr1
    subst hr1
    simp (maxDischargeDepth := 30) only [aft_mk, lT1, hc1, hc2, amL, args0, Nat.reduceEqDiff, reduceCtorEq, ↓reduceIte, Nat.reduceAdd, resultsA, results1, Int.reduceNeg, splice, Nat.reduceLeDiff, part, fillA, fillE, Nat.reduceLT]
    refine (Holders_spec (hG.grow hgm1) hf).mono ?_
    rintro r2 M2 ⟨hg2, ⟨_, rfl⟩ | ⟨h, _⟩⟩
    · have c2 : ¬ (2 : Int) = 0 := by decide
      have c3 : ¬ (2 : Int) = 3 := by decide
      have hal : asLen .nils = some (.int .i64 0) := rfl
      simp (maxDischargeDepth := 30) only [aft_mk, c2, c3, hal, amL, args0, Nat.reduceEqDiff, reduceCtorEq, ↓reduceIte, Nat.reduceAdd, resultsA, results1, Int.reduceNeg, splice, Nat.reduceLeDiff, part, fillA, fillE, Nat.reduceLT]
      exact hgm1.trans hg2
    · rw [hval] at h; cases h
  | true =>
    rw [hval, if_pos rfl] at hr1
    have hHs := Holders_spec (hG.grow hgm1) hf
    by_cases hx : x < 0 ∨ (N.length : Int) ≤ x
    · rw [if_pos hx] at hr1
      subst hr1
      simp (maxDischargeDepth := 30) only [aft_mk, lT1, hc1, hc2, amL, args0, Nat.reduceEqDiff, reduceCtorEq, ↓reduceIte, Nat.reduceAdd, resultsA, results1, Int.reduceNeg, splice, Nat.reduceLeDiff, part, fillA, fillE, Nat.reduceLT]
      refine hHs.mono ?_
      rintro r2 M2 ⟨hg2, ⟨h, _⟩ | ⟨_, v, hr, rfl, hsl, hres⟩⟩
      · rw [hval] at h; cases h
      · have c2 : ¬ (1 : Int) = 0 := by decide
        have c3 : ¬ (1 : Int) = 3 := by decide
        have hal : asLen .nils = some (.int .i64 0) := rfl
        simp (maxDischargeDepth := 30) only [aft_mk, c2, c3, hal, amL, args0, Nat.reduceEqDiff, reduceCtorEq, ↓reduceIte, Nat.reduceAdd, resultsA, results1, Int.reduceNeg, splice, Nat.reduceLeDiff, part, fillA, fillE, Nat.reduceLT]
        exact hgm1.trans hg2
    rw [if_neg hx] at hr1
    obtain ⟨y, rfl⟩ : ∃ y : Nat, x = y := ⟨x.toNat, by omega⟩
    simp only [Int.toNat_natCast] at hr1
    have hyn : y < N.length := by omega
    obtain ⟨hn, hto, hlt, hR, hRl, hsrt⟩ := valid_to hval
    obtain ⟨far, hF, ⟨hfy, rfl⟩ | ⟨hfy, wv, W, rfl, hW, hway⟩⟩ := hr1
    · simp (maxDischargeDepth := 30) only [aft_mk, lT1, hc1, hc2, amL, args0, Nat.reduceEqDiff, reduceCtorEq, ↓reduceIte, Nat.reduceAdd, resultsA, results1, Int.reduceNeg, splice, Nat.reduceLeDiff, part, fillA, fillE, Nat.reduceLT]
      refine hHs.mono ?_
      rintro r2 M2 ⟨hg2, ⟨h, _⟩ | ⟨_, v, hr, rfl, hsl, hres⟩⟩
      · rw [hval] at h; cases h
      obtain ⟨up, rk, hup⟩ := hres
      have hnl : ¬ Live N R y := fun h => by have := (far_live hF y).2 h; omega
      have he := (hup y hyn).1 hnl
      have ixh := hsl.index (ki := .i64) (n := y) (by omega) (by rw [intF_len]; omega)
      have ldh := fun o k => hsl.load (o := o) (k := k) (intF_get hyn)
      rw [he] at ldh
      simp only [Int.toNat_natCast] at ixh
      have c2 : ¬ (3 : Int) = 0 := by decide
      have c3 : ¬ ¬ (3 : Int) = 3 := by decide
      have hal : asLen .nils = some (.int .i64 0) := rfl
      simp (maxDischargeDepth := 30) only [aft_mk, c2, c3, hal, ixh, ldh, amL, args0, Nat.reduceEqDiff, reduceCtorEq, ↓reduceIte, Nat.reduceAdd, resultsA, results1, Int.reduceNeg, splice, Nat.reduceLeDiff, part, fillA, fillE, Nat.reduceLT]
      exact hgm1.trans hg2
    simp (maxDischargeDepth := 30) only [aft_mk, lT1, hc1, hc2, amL, args0, Nat.reduceEqDiff, reduceCtorEq, ↓reduceIte, Nat.reduceAdd, resultsA, results1, Int.reduceNeg, splice, Nat.reduceLeDiff, part, fillA, fillE, Nat.reduceLT]
    refine hHs.mono ?_
    rintro r2 M2 ⟨hg2, ⟨h, _⟩ | ⟨_, v, hr, rfl, hsl, hres⟩⟩
    · rw [hval] at h; cases h
    obtain ⟨up, rk, hup⟩ := hres
    have hgm2 := hgm1.trans hg2
    have lT2 := lT M2 (hg1.trans hg2)
    obtain ⟨hpre, hwl⟩ := hway
    have hW2 : GS M0.length M2 wv 1 (nats W) := hW.keep fun c z _ hz => hg2.get hz
    have hWl : (nats W).length = W.length := by simp
    have hWlen := hW2.sl.len
    rw [hWl] at hWlen
    obtain ⟨D, hD⟩ : ∃ D : Nat, far y = D := ⟨(far y).toNat, by omega⟩
    have hWD : W.length = D + 1 := by omega
    have hDn : D < N.length := by have := hF.lt (p := y) (by omega); omega
    have hlast : W[D]? = some y := by
      obtain ⟨p, hp⟩ : ∃ p, W[D]? = some p := ⟨_, List.getElem?_eq_getElem (by omega)⟩
      obtain ⟨g1, g2⟩ := hpre.get hF D p hp
      rcases (g1.far_le hfy).2 with rfl | h
      · exact hp
      · omega
    obtain ⟨p0, hp0⟩ : ∃ p, W[0]? = some p := ⟨_, List.getElem?_eq_getElem (by omega)⟩
    have hWn : ∀ (k p : Nat), W[k]? = some p → p < N.length := fun k p hp => (hF.1 p (by have := (hpre.get hF k p hp).2; omega)).2
    have hp0r := (hpre.at0 p0 hp0).1.1
    have w0 : IntKind.i64.wrap (((D + 1 : Nat) : Int) - 1) = (D : Int) := by rw [wrap_i64] <;> omega
    have ixl := hW2.sl.index (ki := .i64) (n := D) (by omega) (by rw [hWl]; omega)
    have ldl := fun o k => hW2.sl.load (o := o) (k := k) (nats_get hlast)
    have ix0 := hW2.sl.index (ki := .i64) (n := 0) (by omega) (by rw [hWl]; omega)
    have ld0 := fun o k => hW2.sl.load (o := o) (k := k) (nats_get hp0)
    simp only [Int.toNat_natCast] at ixl
    have e0 : Int.toNat 0 = 0 := rfl
    rw [e0] at ix0
    have c00 : ¬ ¬ (0 : Int) = 0 := by omega
    have c1 : ¬ ((D + 1 : Nat) : Int) = 0 := by omega
    have c3 : ¬ ¬ (y : Int) = y := fun h => h rfl
    rw [hWD] at hWlen
    have hrs2 : SlR M2 rv 1 (nats (rootsN R)) := by
      have h1 := (hG.grow hgm2).1
      rw [hR] at h1
      rw [nats_ints]; exact .inl h1
    have hrl60 : (rootsN R).length < 2 ^ 60 := by have := hf.2.1; simpa [rootsN] using this
    simp (maxDischargeDepth := 30) only [aft_mk, c00, hWlen, c1, w0, ixl, ldl, c3, lT2, ix0, ld0, r0, List.append_nil, amL, args0, Nat.reduceEqDiff, reduceCtorEq, ↓reduceIte, Nat.reduceAdd, resultsA, results1, Int.reduceNeg, splice, Nat.reduceLeDiff, part, fillA, fillE, Nat.reduceLT]
    refine (hasN_spec p0 hrs2 hrl60).mono ?_
    rintro _ _ ⟨rfl, rfl⟩
    simp (maxDischargeDepth := 30) only [aft_mk, hp0r, hWlen, Bool.not_true, decide_true, r0, List.append_nil, amL, args0, Nat.reduceEqDiff, reduceCtorEq, ↓reduceIte, Nat.reduceAdd, resultsA, results1, Int.reduceNeg, splice, Nat.reduceLeDiff, part, fillA, fillE, Nat.reduceLT]
    have hfarW := fun k p hp => (hpre.get hF k p hp).2
    let I := fun (k : Nat) (fr : Frame) (M : Mem) => ∃ i : Nat, i ≤ D + 1 ∧ k = D + 1 - i ∧ fr 1 = .int .i64 (y : Nat) ∧ fr 2 = .ptr m.length 0 0 ∧ fr 5 = wv ∧ fr 7 = v ∧ fr 8 = .int .i64 0 ∧ fr 72 = wv ∧ fr 73 = .int .i64 (D + 1 : Nat) ∧ fr 74 = .int .i64 (i : Nat) ∧ M = M2
    refine W_loop I ?_ (D + 1) ?_
    · rintro k fr M ⟨i, hi, rfl, f1, f2, f5, f7, f8, f72, f73, f74, rfl⟩
      unfold law31_GraphWay_l0
      simp (maxDischargeDepth := 30) only [f1, f2, f5, f7, f8, f72, f73, f74, amL, args0, Nat.reduceEqDiff, reduceCtorEq, ↓reduceIte, Nat.reduceAdd, resultsA, results1, Int.reduceNeg, splice, Nat.reduceLeDiff, part, fillA, fillE, Nat.reduceLT]
      by_cases hil : i < D + 1
      · have hil' : (i : Int) < ((D + 1 : Nat) : Int) := by omega
        obtain ⟨p, hp⟩ : ∃ p, W[i]? = some p := ⟨_, List.getElem?_eq_getElem (by omega)⟩
        have hpn := hWn i p hp
        have ixi := hW2.sl.index (ki := .i64) (n := i) (by omega) (by rw [hWl]; omega)
        have ldi := fun o k => hW2.sl.load (o := o) (k := k) (nats_get hp)
        simp only [Int.toNat_natCast] at ixi
        have wi : IntKind.i64.wrap ((i : Int) + 1) = ((i + 1 : Nat) : Int) := by rw [wrap_i64] <;> omega
        obtain ⟨wu, hu1, hu2, _⟩ := hW2.cut (k := i) (by rw [hWl]; omega)
        have hzo : zOk wv 1 = true := hW2.sl.2
        have htk : (nats W).take i = nats (W.take i) := List.map_take.symm
        rw [htk] at hu2
        have hnot : p ∉ W.take i := fun hm => by
          obtain ⟨j, hj⟩ := List.getElem?_of_mem hm
          have hji : j < i := by have := (List.getElem?_eq_some_iff.1 hj).1; simp at this; omega
          rw [List.getElem?_take, if_pos hji] at hj
          have h1 := hfarW j p hj
          have h2 := hfarW i p hp
          omega
        have hcall : ∀ (fr' : Frame) (Q : V → Mem → Prop), (∀ m', m' = M → Q (.bool false) m') → C S n_law31_hasPlace [wu, .int .i64 (p : Nat)] M Q := fun fr' Q hQ => (hasN_spec p (.inl hu2.sl) (by simp; omega)).mono fun r m' h => by
          obtain ⟨h1, h2⟩ := h
          rw [h1, decide_eq_false hnot]
          exact hQ _ h2.symm
        have fin : ∀ (fr : Frame), fr 1 = .int .i64 (y : Nat) → fr 2 = .ptr m.length 0 0 → fr 5 = wv → fr 7 = v → fr 8 = .int .i64 0 → fr 72 = wv → fr 73 = .int .i64 (D + 1 : Nat) → fr 74 = .int .i64 ((i + 1 : Nat) : Int) → ∃ j, j < D + 1 - i ∧ I j fr M := fun fr f1 f2 f5 f7 f8 f72 f73 f74 => ⟨D + 1 - (i + 1), by omega, i + 1, by omega, rfl, f1, f2, f5, f7, f8, f72, f73, f74, rfl⟩
        by_cases hi0 : (0 : Int) < i
        · obtain ⟨i', rfl⟩ : ∃ i', i = i' + 1 := ⟨i - 1, by omega⟩
          obtain ⟨q, hq⟩ : ∃ q, W[i']? = some q := ⟨_, List.getElem?_eq_getElem (by omega)⟩
          have hqn := hWn i' q hq
          have hpq := (hpre.next i' q p hq hp).1.1
          have wi' : IntKind.i64.wrap (((i' + 1 : Nat) : Int) - 1) = (i' : Int) := by rw [wrap_i64] <;> omega
          have ixq := hW2.sl.index (ki := .i64) (n := i') (by omega) (by rw [hWl]; omega)
          have ldq := fun o k => hW2.sl.load (o := o) (k := k) (nats_get hq)
          obtain ⟨nd, hnd⟩ : ∃ nd, N[q]? = some nd := ⟨_, List.getElem?_eq_getElem hqn⟩
          obtain ⟨_, els, hne, hel, hnds⟩ := hG.grow hgm2
          obtain ⟨tov, hte, htv⟩ := hnds q nd hnd
          rw [hto q nd hnd] at htv
          have ixn := hne.index (ki := .i64) (n := q) (by omega) (by omega)
          have ldn := fun o k => hne.load (o := o) (k := k) hte
          simp only [Int.toNat_natCast] at ixn ixq
          have hfit : (toN N q).length < 2 ^ 60 := by
            have h1 := hf.2.2 nd (List.mem_of_getElem? hnd)
            rw [hto q nd hnd] at h1
            simpa using h1
          simp (maxDischargeDepth := 30) only [hil', f1, f2, f5, f7, f8, f72, f73, f74, ixi, ldi, hi0, lT2, wi', ixq, ldq, ixn, ldn, r0, List.append_nil, amL, args0, Nat.reduceEqDiff, reduceCtorEq, ↓reduceIte, Nat.reduceAdd, resultsA, results1, Int.reduceNeg, splice, Nat.reduceLeDiff, part, fillA, fillE, Nat.reduceLT]
          refine (hasN_spec p htv.nats hfit).mono ?_
          rintro _ _ ⟨rfl, rfl⟩
          simp (maxDischargeDepth := 30) only [aft_mk, hpq, decide_true, Bool.not_true, f5, Option.map_none, hzo, hu1, r0, List.append_nil, amL, args0, Nat.reduceEqDiff, reduceCtorEq, ↓reduceIte, Nat.reduceAdd, resultsA, results1, Int.reduceNeg, splice, Nat.reduceLeDiff, part, fillA, fillE, Nat.reduceLT]
          refine hcall fr _ fun m' hm' => ?_
          subst hm'
          simp (maxDischargeDepth := 30) only [aft_mk, f74, wi, r0, List.append_nil, amL, args0, Nat.reduceEqDiff, reduceCtorEq, ↓reduceIte, Nat.reduceAdd, resultsA, results1, Int.reduceNeg, splice, Nat.reduceLeDiff, part, fillA, fillE, Nat.reduceLT]
          exact fin _ (by simp (maxDischargeDepth := 30) only [f1, amL, args0, Nat.reduceEqDiff, reduceCtorEq, ↓reduceIte, Nat.reduceAdd, resultsA, results1, Int.reduceNeg, splice, Nat.reduceLeDiff, part, fillA, fillE, Nat.reduceLT]) (by simp (maxDischargeDepth := 30) only [f2, amL, args0, Nat.reduceEqDiff, reduceCtorEq, ↓reduceIte, Nat.reduceAdd, resultsA, results1, Int.reduceNeg, splice, Nat.reduceLeDiff, part, fillA, fillE, Nat.reduceLT]) (by simp (maxDischargeDepth := 30) only [f5, amL, args0, Nat.reduceEqDiff, reduceCtorEq, ↓reduceIte, Nat.reduceAdd, resultsA, results1, Int.reduceNeg, splice, Nat.reduceLeDiff, part, fillA, fillE, Nat.reduceLT]) (by simp (maxDischargeDepth := 30) only [f7, amL, args0, Nat.reduceEqDiff, reduceCtorEq, ↓reduceIte, Nat.reduceAdd, resultsA, results1, Int.reduceNeg, splice, Nat.reduceLeDiff, part, fillA, fillE, Nat.reduceLT]) (by simp (maxDischargeDepth := 30) only [f8, amL, args0, Nat.reduceEqDiff, reduceCtorEq, ↓reduceIte, Nat.reduceAdd, resultsA, results1, Int.reduceNeg, splice, Nat.reduceLeDiff, part, fillA, fillE, Nat.reduceLT]) (by simp (maxDischargeDepth := 30) only [f72, amL, args0, Nat.reduceEqDiff, reduceCtorEq, ↓reduceIte, Nat.reduceAdd, resultsA, results1, Int.reduceNeg, splice, Nat.reduceLeDiff, part, fillA, fillE, Nat.reduceLT]) (by simp (maxDischargeDepth := 30) only [f73, amL, args0, Nat.reduceEqDiff, reduceCtorEq, ↓reduceIte, Nat.reduceAdd, resultsA, results1, Int.reduceNeg, splice, Nat.reduceLeDiff, part, fillA, fillE, Nat.reduceLT]) (by simp (maxDischargeDepth := 30) only [amL, args0, Nat.reduceEqDiff, reduceCtorEq, ↓reduceIte, Nat.reduceAdd, resultsA, results1, Int.reduceNeg, splice, Nat.reduceLeDiff, part, fillA, fillE, Nat.reduceLT])
        · simp (maxDischargeDepth := 30) only [hil', f1, f2, f5, f7, f8, f72, f73, f74, ixi, ldi, hi0, Option.map_none, hzo, hu1, r0, List.append_nil, amL, args0, Nat.reduceEqDiff, reduceCtorEq, ↓reduceIte, Nat.reduceAdd, resultsA, results1, Int.reduceNeg, splice, Nat.reduceLeDiff, part, fillA, fillE, Nat.reduceLT]
          refine hcall fr _ fun m' hm' => ?_
          subst hm'
          simp (maxDischargeDepth := 30) only [aft_mk, f74, wi, r0, List.append_nil, amL, args0, Nat.reduceEqDiff, reduceCtorEq, ↓reduceIte, Nat.reduceAdd, resultsA, results1, Int.reduceNeg, splice, Nat.reduceLeDiff, part, fillA, fillE, Nat.reduceLT]
          exact fin _ (by simp (maxDischargeDepth := 30) only [f1, amL, args0, Nat.reduceEqDiff, reduceCtorEq, ↓reduceIte, Nat.reduceAdd, resultsA, results1, Int.reduceNeg, splice, Nat.reduceLeDiff, part, fillA, fillE, Nat.reduceLT]) (by simp (maxDischargeDepth := 30) only [f2, amL, args0, Nat.reduceEqDiff, reduceCtorEq, ↓reduceIte, Nat.reduceAdd, resultsA, results1, Int.reduceNeg, splice, Nat.reduceLeDiff, part, fillA, fillE, Nat.reduceLT]) (by simp (maxDischargeDepth := 30) only [f5, amL, args0, Nat.reduceEqDiff, reduceCtorEq, ↓reduceIte, Nat.reduceAdd, resultsA, results1, Int.reduceNeg, splice, Nat.reduceLeDiff, part, fillA, fillE, Nat.reduceLT]) (by simp (maxDischargeDepth := 30) only [f7, amL, args0, Nat.reduceEqDiff, reduceCtorEq, ↓reduceIte, Nat.reduceAdd, resultsA, results1, Int.reduceNeg, splice, Nat.reduceLeDiff, part, fillA, fillE, Nat.reduceLT]) (by simp (maxDischargeDepth := 30) only [f8, amL, args0, Nat.reduceEqDiff, reduceCtorEq, ↓reduceIte, Nat.reduceAdd, resultsA, results1, Int.reduceNeg, splice, Nat.reduceLeDiff, part, fillA, fillE, Nat.reduceLT]) (by simp (maxDischargeDepth := 30) only [f72, amL, args0, Nat.reduceEqDiff, reduceCtorEq, ↓reduceIte, Nat.reduceAdd, resultsA, results1, Int.reduceNeg, splice, Nat.reduceLeDiff, part, fillA, fillE, Nat.reduceLT]) (by simp (maxDischargeDepth := 30) only [f73, amL, args0, Nat.reduceEqDiff, reduceCtorEq, ↓reduceIte, Nat.reduceAdd, resultsA, results1, Int.reduceNeg, splice, Nat.reduceLeDiff, part, fillA, fillE, Nat.reduceLT]) (by simp (maxDischargeDepth := 30) only [amL, args0, Nat.reduceEqDiff, reduceCtorEq, ↓reduceIte, Nat.reduceAdd, resultsA, results1, Int.reduceNeg, splice, Nat.reduceLeDiff, part, fillA, fillE, Nat.reduceLT])
      · have hil' : ¬ (i : Int) < ((D + 1 : Nat) : Int) := by omega
        have ixh := hsl.index (ki := .i64) (n := y) (by omega) (by rw [intF_len]; omega)
        have ldh := fun o k => hsl.load (o := o) (k := k) (intF_get hyn)
        simp only [Int.toNat_natCast] at ixh
        have hly : Live N R y := (far_live hF y).1 hfy
        simp (maxDischargeDepth := 30) only [hil', f1, f2, f5, f7, f8, f72, f73, f74, ixh, ldh, amL, args0, Nat.reduceEqDiff, reduceCtorEq, ↓reduceIte, Nat.reduceAdd, resultsA, results1, Int.reduceNeg, splice, Nat.reduceLeDiff, part, fillA, fillE, Nat.reduceLT]
        obtain ⟨_, els, hne, hel, _⟩ := hG.grow hgm2
        let J := fun (k : Nat) (fr : Frame) (M' : Mem) => M' = M ∧ fr 2 = .ptr m.length 0 0 ∧ fr 5 = wv ∧ fr 7 = v ∧ fr 8 = .int .i64 0 ∧ ∃ (h : Int) (A : List Nat), fr 11 = .int .i64 h ∧ fr 12 = .int .i64 ((A.length : Int) - 1) ∧ A ≠ [] ∧ A.Nodup ∧ (∀ a, a ∈ A → a < N.length) ∧ (h = -1 ∨ ∃ z : Nat, h = z ∧ rk z < k ∧ z < N.length ∧ Live N R z ∧ An N.length up y z ∧ ∀ a, a ∈ A → rk z < rk a)
        -- where a chain goes on
        have hnext : ∀ z, z < N.length → Live N R z → An N.length up y z → ∀ A : List Nat, A.Nodup → (∀ a, a ∈ A → a < N.length) → (∀ a, a ∈ A → rk z < rk a) → (z :: A).Nodup ∧ (∀ a, a ∈ z :: A → a < N.length) ∧ ((hr z = -1) ∨ ∃ z' : Nat, hr z = z' ∧ z' < N.length ∧ Live N R z' ∧ An N.length up y z' ∧ rk z' < rk z ∧ ∀ a, a ∈ z :: A → rk z' < rk a) := by
          intro z hzn hzl hzy A hA hAn hAr
          refine ⟨List.nodup_cons.2 ⟨fun hm => by have := hAr z hm; omega, hA⟩, fun a ha => ?_, ?_⟩
          · rcases List.mem_cons.1 ha with rfl | ha
            · exact hzn
            · exact hAn a ha
          · obtain ⟨g1, g2, _⟩ := (hup z hzn).2 hzl
            rcases g1 with ⟨_, e⟩ | ⟨e1, e2, e3⟩
            · exact .inl e
            · refine .inr ⟨up z, e2, e1, e3, hzy.trans (.step hzn (.refl _)), g2, fun a ha => ?_⟩
              rcases List.mem_cons.1 ha with rfl | ha
              · exact g2
              · have := hAr a ha; omega
        have hwayH : ∀ z, z < N.length → An N.length up y z → z ∈ W := fun z hzn hz => by
          by_cases hzw : z ∈ W
          · exact hzw
          · exfalso
            have h1 := ((hup y hyn).2 hly).2.2 z hzn
            refine h1.1 hz ⟨D, hpre.path (fun a ha e => hzw ?_) D y hlast⟩
            have : a = z := by omega
            exact this ▸ ha
        refine W_loop J ?_ (rk y) ?_
        · clear f1 f2 f5 f7 f8 f72 f73 f74 fr
          rintro k fr M' ⟨rfl, f2, f5, f7, f8, h, A, f11, f12, hA0, hA, hAn, hz⟩
          unfold law31_GraphWay_l1
          rcases hz with rfl | ⟨z, rfl, hzk, hzn, hzl, hzy, hzr⟩
          · have c0 : ¬ (0 : Int) ≤ -1 := by decide
            simp (maxDischargeDepth := 30) only [f2, f5, f7, f8, f11, f12, c0, amL, args0, Nat.reduceEqDiff, reduceCtorEq, ↓reduceIte, Nat.reduceAdd, resultsA, results1, Int.reduceNeg, splice, Nat.reduceLeDiff, part, fillA, fillE, Nat.reduceLT]
            exact hgm2
          · have c0 : (0 : Int) ≤ z := by omega
            obtain ⟨b1, b2, b3⟩ := hnext z hzn hzl hzy A hA hAn hzr
            have hAl := nodup_le N.length _ b1 b2
            rw [List.length_cons] at hAl
            have c1' : ¬ (N.length : Int) < (A.length : Int) - 1 := by omega
            have hzw := hwayH z hzn hzy
            have ixz := hsl.index (ki := .i64) (n := z) (by omega) (by rw [intF_len]; omega)
            have ldz := fun o k => hsl.load (o := o) (k := k) (intF_get hzn)
            simp only [Int.toNat_natCast] at ixz
            have wA : IntKind.i64.wrap ((A.length : Int) - 1 + 1) = (((z :: A).length : Nat) : Int) - 1 := by rw [List.length_cons, wrap_i64] <;> omega
            simp (maxDischargeDepth := 30) only [f2, f5, f7, f8, f11, f12, c0, lT2, hne.len, hel, c1', amL, args0, Nat.reduceEqDiff, reduceCtorEq, ↓reduceIte, Nat.reduceAdd, resultsA, results1, Int.reduceNeg, splice, Nat.reduceLeDiff, part, fillA, fillE, Nat.reduceLT]
            refine (hasN_spec z (.inl hW2.sl) (by omega)).mono ?_
            rintro _ _ ⟨rfl, rfl⟩
            simp (maxDischargeDepth := 30) only [aft_mk, hzw, decide_true, Bool.not_true, f2, f5, f7, f8, f11, f12, ixz, ldz, wA, amL, args0, Nat.reduceEqDiff, reduceCtorEq, ↓reduceIte, Nat.reduceAdd, resultsA, results1, Int.reduceNeg, splice, Nat.reduceLeDiff, part, fillA, fillE, Nat.reduceLT]
            rcases b3 with b3 | ⟨z', b3, b4, b5, b6, b7, b8⟩
            · exact ⟨rk z, hzk, rfl, by simp (maxDischargeDepth := 30) only [f2, amL, args0, Nat.reduceEqDiff, reduceCtorEq, ↓reduceIte, Nat.reduceAdd, resultsA, results1, Int.reduceNeg, splice, Nat.reduceLeDiff, part, fillA, fillE, Nat.reduceLT], by simp (maxDischargeDepth := 30) only [f5, amL, args0, Nat.reduceEqDiff, reduceCtorEq, ↓reduceIte, Nat.reduceAdd, resultsA, results1, Int.reduceNeg, splice, Nat.reduceLeDiff, part, fillA, fillE, Nat.reduceLT], by simp (maxDischargeDepth := 30) only [f7, amL, args0, Nat.reduceEqDiff, reduceCtorEq, ↓reduceIte, Nat.reduceAdd, resultsA, results1, Int.reduceNeg, splice, Nat.reduceLeDiff, part, fillA, fillE, Nat.reduceLT], by simp (maxDischargeDepth := 30) only [f8, amL, args0, Nat.reduceEqDiff, reduceCtorEq, ↓reduceIte, Nat.reduceAdd, resultsA, results1, Int.reduceNeg, splice, Nat.reduceLeDiff, part, fillA, fillE, Nat.reduceLT], -1, z :: A, by simp (maxDischargeDepth := 30) only [b3, amL, args0, Nat.reduceEqDiff, reduceCtorEq, ↓reduceIte, Nat.reduceAdd, resultsA, results1, Int.reduceNeg, splice, Nat.reduceLeDiff, part, fillA, fillE, Nat.reduceLT], by simp (maxDischargeDepth := 30) only [amL, args0, Nat.reduceEqDiff, reduceCtorEq, ↓reduceIte, Nat.reduceAdd, resultsA, results1, Int.reduceNeg, splice, Nat.reduceLeDiff, part, fillA, fillE, Nat.reduceLT], by simp, b1, b2, .inl rfl⟩
            · exact ⟨rk z, hzk, rfl, by simp (maxDischargeDepth := 30) only [f2, amL, args0, Nat.reduceEqDiff, reduceCtorEq, ↓reduceIte, Nat.reduceAdd, resultsA, results1, Int.reduceNeg, splice, Nat.reduceLeDiff, part, fillA, fillE, Nat.reduceLT], by simp (maxDischargeDepth := 30) only [f5, amL, args0, Nat.reduceEqDiff, reduceCtorEq, ↓reduceIte, Nat.reduceAdd, resultsA, results1, Int.reduceNeg, splice, Nat.reduceLeDiff, part, fillA, fillE, Nat.reduceLT], by simp (maxDischargeDepth := 30) only [f7, amL, args0, Nat.reduceEqDiff, reduceCtorEq, ↓reduceIte, Nat.reduceAdd, resultsA, results1, Int.reduceNeg, splice, Nat.reduceLeDiff, part, fillA, fillE, Nat.reduceLT], by simp (maxDischargeDepth := 30) only [f8, amL, args0, Nat.reduceEqDiff, reduceCtorEq, ↓reduceIte, Nat.reduceAdd, resultsA, results1, Int.reduceNeg, splice, Nat.reduceLeDiff, part, fillA, fillE, Nat.reduceLT], z', z :: A, by simp (maxDischargeDepth := 30) only [b3, amL, args0, Nat.reduceEqDiff, reduceCtorEq, ↓reduceIte, Nat.reduceAdd, resultsA, results1, Int.reduceNeg, splice, Nat.reduceLeDiff, part, fillA, fillE, Nat.reduceLT], by simp (maxDischargeDepth := 30) only [amL, args0, Nat.reduceEqDiff, reduceCtorEq, ↓reduceIte, Nat.reduceAdd, resultsA, results1, Int.reduceNeg, splice, Nat.reduceLeDiff, part, fillA, fillE, Nat.reduceLT], by simp, b1, b2, .inr ⟨z', rfl, b7, b4, b5, b6, b8⟩⟩
        · obtain ⟨b1, b2, b3⟩ := hnext y hyn hly (.refl y) [] (by simp) (by simp) (by simp)
          rcases b3 with b3 | ⟨z', b3, b4, b5, b6, b7, b8⟩
          · exact ⟨rfl, by simp (maxDischargeDepth := 30) only [f2, amL, args0, Nat.reduceEqDiff, reduceCtorEq, ↓reduceIte, Nat.reduceAdd, resultsA, results1, Int.reduceNeg, splice, Nat.reduceLeDiff, part, fillA, fillE, Nat.reduceLT], by simp (maxDischargeDepth := 30) only [f5, amL, args0, Nat.reduceEqDiff, reduceCtorEq, ↓reduceIte, Nat.reduceAdd, resultsA, results1, Int.reduceNeg, splice, Nat.reduceLeDiff, part, fillA, fillE, Nat.reduceLT], by simp (maxDischargeDepth := 30) only [f7, amL, args0, Nat.reduceEqDiff, reduceCtorEq, ↓reduceIte, Nat.reduceAdd, resultsA, results1, Int.reduceNeg, splice, Nat.reduceLeDiff, part, fillA, fillE, Nat.reduceLT], by simp (maxDischargeDepth := 30) only [f8, amL, args0, Nat.reduceEqDiff, reduceCtorEq, ↓reduceIte, Nat.reduceAdd, resultsA, results1, Int.reduceNeg, splice, Nat.reduceLeDiff, part, fillA, fillE, Nat.reduceLT], -1, [y], by simp (maxDischargeDepth := 30) only [b3, amL, args0, Nat.reduceEqDiff, reduceCtorEq, ↓reduceIte, Nat.reduceAdd, resultsA, results1, Int.reduceNeg, splice, Nat.reduceLeDiff, part, fillA, fillE, Nat.reduceLT], by simp (maxDischargeDepth := 30) only [amL, args0, Nat.reduceEqDiff, reduceCtorEq, ↓reduceIte, Nat.reduceAdd, resultsA, results1, Int.reduceNeg, splice, Nat.reduceLeDiff, part, fillA, fillE, Nat.reduceLT]; rfl, by simp, b1, b2, .inl rfl⟩
          · exact ⟨rfl, by simp (maxDischargeDepth := 30) only [f2, amL, args0, Nat.reduceEqDiff, reduceCtorEq, ↓reduceIte, Nat.reduceAdd, resultsA, results1, Int.reduceNeg, splice, Nat.reduceLeDiff, part, fillA, fillE, Nat.reduceLT], by simp (maxDischargeDepth := 30) only [f5, amL, args0, Nat.reduceEqDiff, reduceCtorEq, ↓reduceIte, Nat.reduceAdd, resultsA, results1, Int.reduceNeg, splice, Nat.reduceLeDiff, part, fillA, fillE, Nat.reduceLT], by simp (maxDischargeDepth := 30) only [f7, amL, args0, Nat.reduceEqDiff, reduceCtorEq, ↓reduceIte, Nat.reduceAdd, resultsA, results1, Int.reduceNeg, splice, Nat.reduceLeDiff, part, fillA, fillE, Nat.reduceLT], by simp (maxDischargeDepth := 30) only [f8, amL, args0, Nat.reduceEqDiff, reduceCtorEq, ↓reduceIte, Nat.reduceAdd, resultsA, results1, Int.reduceNeg, splice, Nat.reduceLeDiff, part, fillA, fillE, Nat.reduceLT], z', [y], by simp (maxDischargeDepth := 30) only [b3, amL, args0, Nat.reduceEqDiff, reduceCtorEq, ↓reduceIte, Nat.reduceAdd, resultsA, results1, Int.reduceNeg, splice, Nat.reduceLeDiff, part, fillA, fillE, Nat.reduceLT], by simp (maxDischargeDepth := 30) only [amL, args0, Nat.reduceEqDiff, reduceCtorEq, ↓reduceIte, Nat.reduceAdd, resultsA, results1, Int.reduceNeg, splice, Nat.reduceLeDiff, part, fillA, fillE, Nat.reduceLT]; rfl, by simp, b1, b2, .inr ⟨z', rfl, b7, b4, b5, b6, b8⟩⟩
    · exact ⟨0, Nat.zero_le _, rfl, by simp (maxDischargeDepth := 30) only [amL, args0, Nat.reduceEqDiff, reduceCtorEq, ↓reduceIte, Nat.reduceAdd, resultsA, results1, Int.reduceNeg, splice, Nat.reduceLeDiff, part, fillA, fillE, Nat.reduceLT], by simp (maxDischargeDepth := 30) only [amL, args0, Nat.reduceEqDiff, reduceCtorEq, ↓reduceIte, Nat.reduceAdd, resultsA, results1, Int.reduceNeg, splice, Nat.reduceLeDiff, part, fillA, fillE, Nat.reduceLT], by simp (maxDischargeDepth := 30) only [amL, args0, Nat.reduceEqDiff, reduceCtorEq, ↓reduceIte, Nat.reduceAdd, resultsA, results1, Int.reduceNeg, splice, Nat.reduceLeDiff, part, fillA, fillE, Nat.reduceLT], by simp (maxDischargeDepth := 30) only [amL, args0, Nat.reduceEqDiff, reduceCtorEq, ↓reduceIte, Nat.reduceAdd, resultsA, results1, Int.reduceNeg, splice, Nat.reduceLeDiff, part, fillA, fillE, Nat.reduceLT], by simp (maxDischargeDepth := 30) only [amL, args0, Nat.reduceEqDiff, reduceCtorEq, ↓reduceIte, Nat.reduceAdd, resultsA, results1, Int.reduceNeg, splice, Nat.reduceLeDiff, part, fillA, fillE, Nat.reduceLT], by simp (maxDischargeDepth := 30) only [amL, args0, Nat.reduceEqDiff, reduceCtorEq, ↓reduceIte, Nat.reduceAdd, resultsA, results1, Int.reduceNeg, splice, Nat.reduceLeDiff, part, fillA, fillE, Nat.reduceLT], by simp (maxDischargeDepth := 30) only [amL, args0, Nat.reduceEqDiff, reduceCtorEq, ↓reduceIte, Nat.reduceAdd, resultsA, results1, Int.reduceNeg, splice, Nat.reduceLeDiff, part, fillA, fillE, Nat.reduceLT], by simp (maxDischargeDepth := 30) only [amL, args0, Nat.reduceEqDiff, reduceCtorEq, ↓reduceIte, Nat.reduceAdd, resultsA, results1, Int.reduceNeg, splice, Nat.reduceLeDiff, part, fillA, fillE, Nat.reduceLT]; rfl, rfl⟩
end Go.AM.G
