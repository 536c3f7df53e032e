/- Way, whole. -/
import Derived.Test.YtnpefpiggklimaaGraphWT
set_option linter.unusedVariables false
set_option linter.unusedSimpArgs false
set_option maxRecDepth 100000
namespace Go.AM.G
open Go Go.AM
theorem SlR.nats {M : Mem} {v : V} {l : List Nat} (h : SlR M v 1 (i64s (ints' l))) : SlR M v 1 (nats l) := by rw [nats_ints]; exact h
/-- least of a rising row. -/
theorem lst_first {l : List Nat} {b : Nat → Bool} (hs : l.Pairwise (· < ·)) {i x : Nat} (hx : l[i]? = some x) (hb : b x = true) (hno : ∀ (j z : Nat), j < i → l[j]? = some z → b z = false) : Lst x (fun z => z ∈ l ∧ b z = true) := by
  refine ⟨⟨List.mem_of_getElem? hx, hb⟩, fun z ⟨hz, hbz⟩ => ?_⟩
  obtain ⟨j, hj⟩ := List.getElem?_of_mem hz
  obtain ⟨h1, h2⟩ := List.getElem?_eq_some_iff.1 hx
  obtain ⟨h3, h4⟩ := List.getElem?_eq_some_iff.1 hj
  by_cases hji : j < i
  · have := hno j z hji hj
    rw [hbz] at this; cases this
  · by_cases e : i = j
    · subst e; rw [hx] at hj; cases hj; exact Nat.le_refl _
    · rw [List.pairwise_iff_getElem] at hs
      have := hs i j h1 h3 (by omega)
      omega
theorem Sl.keepLt {m M : Mem} {v : V} {z : Nat} {els : List (List V)} (h : Sl m v z els) (hk : ∀ c y, c < m.length → m[c]? = some y → M[c]? = some y) : Sl M v z els := by
  refine ⟨?_, h.2⟩
  have h1 := h.1
  cases v with
  | slice b i len cap ex z' =>
    simp only [elems] at h1 ⊢
    split at h1
    · rename_i own els0 hb
      rw [hk b _ (List.getElem?_eq_some_iff.1 hb).1 hb]
      exact h1
    · cases h1
  | _ => exact h1
theorem Lst.congr {x : Nat} {P Q : Nat → Prop} (h : Lst x P) (hpq : ∀ z, P z ↔ Q z) : Lst x Q := ⟨(hpq x).1 h.1, fun z hz => h.2 z ((hpq z).2 hz)⟩
/-- the memory while layers are gone through. -/
structure WS (M3 : Mem) (A n : Nat) (on : Nat → Bool) (M : Mem) : Prop where
  k : ∀ c y, c ≠ A + 1 → M3[c]? = some y → M[c]? = some y
  on : M[A + 1]? = some (.cells true (boolF n on))
  ln : M3.length ≤ M.length
theorem Way_spec {m : Mem} {nv rv : V} {N : List NodeA} {R : List Int} (hG : Gr m nv rv N R) (hf : Fits N R) (x : Int) : C S n_graph_Way [.agg [nv, rv], .int .i64 x] m (fun r m' => Grow m m' ∧ if validG N R = true then (if x < 0 ∨ (N.length : Int) ≤ x then r = .tup [.nils, .int .i64 1] else ∃ far, FarOK (toN N) (rootsN R) N.length far ∧ ((far x.toNat < 0 ∧ r = .tup [.nils, .int .i64 3]) ∨ (0 ≤ far x.toNat ∧ ∃ v W, r = .tup [v, .int .i64 0] ∧ GS m.length m' v 1 (nats W) ∧ WayIs (toN N) (rootsN R) far x.toNat W))) else r = .tup [.nils, .int .i64 2]) := by
  refine C_body rfl rfl rfl ?_
  unfold graph_Way
  obtain ⟨hc1, hc2⟩ := hG.cells
  have r0 : List.replicate 0 Blk.dead = [] := rfl
  simp (maxDischargeDepth := 30) only [hc1, hc2, amL, args0, Nat.reduceEqDiff, reduceCtorEq, ↓reduceIte, Nat.reduceAdd, resultsA, results1, Int.reduceNeg, splice, Nat.reduceLeDiff, part, fillA, fillE, Nat.reduceLT]
  refine (there_spec (hG.grow (Grow.refl _).app) hf x).mono ?_
  rintro _ M1 ⟨hg1, rfl⟩
  have hgm1 : Grow m M1 := (Grow.refl m).app.trans hg1
  have hT1 : M1[m.length]? = some (.cells true [[nv, rv]]) := hg1.get (by simp)
  have ldT1 := fun j k => load_at0 (k := k) (j := j) hT1
  cases hval : validG N R with
  | false =>
    have c2 : ¬ (2 : Int) = 0 := by decide
    simp (maxDischargeDepth := 30) only [aft_mk, c2, Bool.false_eq_true, amL, args0, Nat.reduceEqDiff, reduceCtorEq, ↓reduceIte, Nat.reduceAdd, resultsA, results1, Int.reduceNeg, splice, Nat.reduceLeDiff, part, fillA, fillE, Nat.reduceLT]
    exact hgm1
  | true =>
    by_cases hx : x < 0 ∨ (N.length : Int) ≤ x
    · have c1 : ¬ (1 : Int) = 0 := by decide
      simp (maxDischargeDepth := 30) only [aft_mk, hx, c1, amL, args0, Nat.reduceEqDiff, reduceCtorEq, ↓reduceIte, Nat.reduceAdd, resultsA, results1, Int.reduceNeg, splice, Nat.reduceLeDiff, part, fillA, fillE, Nat.reduceLT]
      exact hgm1
    obtain ⟨y, rfl⟩ : ∃ y : Nat, x = y := ⟨x.toNat, by omega⟩
    have hyn : y < N.length := by omega
    obtain ⟨hn, hto, hlt, hR, hRl, hsrt⟩ := valid_to hval
    have c00 : ¬ ¬ (0 : Int) = 0 := by omega
    have lN : ∀ j k, loadV (M1 ++ [Blk.cells true [[nv, rv]]]) k (.ptr M1.length 0 j) = part [nv, rv] j k := fun j k => load_at0 (own := true) (by simp)
    simp (maxDischargeDepth := 30) only [aft_mk, hx, c00, ldT1, hc1, hc2, lN, amL, args0, Nat.reduceEqDiff, reduceCtorEq, ↓reduceIte, Nat.reduceAdd, resultsA, results1, Int.reduceNeg, splice, Nat.reduceLeDiff, part, fillA, fillE, Nat.reduceLT]
    have hG2 := hG.grow (hgm1.app (g := [Blk.cells true [[nv, rv]]]))
    have hrs : Sl (M1 ++ [Blk.cells true [[nv, rv]]]) rv 1 (nats (rootsN R)) := by
      have h1 := hG2.1
      rw [hR] at h1
      rw [nats_ints]; exact h1
    have hRl : ∀ q, q ∈ rootsN R → q < N.length := hRl
    have hrl60 : (rootsN R).length < 2 ^ 60 := by have := hf.2.1; simpa [rootsN] using this
    refine (walk_spec (but := -1) (own := true) hG2 hf hval (by simp) hrs hRl hrl60).mono ?_
    rintro farv M2 ⟨hg2, far, hfar, hw1, hw2⟩
    have hF : FarOK (toN N) (rootsN R) N.length far := ⟨hw1, hw2⟩
    have hgm2 : Grow m M2 := hgm1.app.trans hg2
    have hrs2 := hrs.grow hg2
    have hG2' := hG.grow hgm2
    have hT2 : M2[m.length]? = some (.cells true [[nv, rv]]) := (((Grow.refl M1).app (g := [Blk.cells true [[nv, rv]]])).trans hg2).get hT1
    clear hG2 hrs lN
    have hfc := hfar.cell
    have hfcl := cells_cell hfc
    generalize hnn : N.length = n at *
    have hm2 := hgm2.len
    have hml := (List.getElem?_eq_some_iff.1 hT2).1
    have ixy := (hfar.app (g := [Blk.cells true [[farv]]])).index (ki := .i64) (n := y) (by omega) (by rw [intF_len]; omega)
    have ldy := fun o k => (hfar.app (g := [Blk.cells true [[farv]]])).load (o := o) (k := k) (intF_get hyn)
    simp only [Int.toNat_natCast] at ixy
    by_cases hfy : far y < 0
    · simp (maxDischargeDepth := 30) only [aft_mk, hfc, hfcl, ixy, ldy, hfy, amL, args0, Nat.reduceEqDiff, reduceCtorEq, ↓reduceIte, Nat.reduceAdd, resultsA, results1, Int.reduceNeg, splice, Nat.reduceLeDiff, part, fillA, fillE, Nat.reduceLT]
      exact ⟨hgm2.app, far, hF, .inl hfy⟩
    obtain ⟨D, hD⟩ : ∃ D : Nat, far y = D := ⟨(far y).toNat, by omega⟩
    have hDn : D < n := by have := hF.lt (p := y) (by omega); omega
    have rm : 0 ≤ (n : Int) ∧ (n : Int) ≤ n ∧ roomy (n : Int).toNat 1 = true := by simp [roomy]; omega
    have rm' : roomy n 1 = true := by simpa using rm.2.2
    have rm0 : 0 ≤ (n : Int) ∧ (n : Int) ≤ n := ⟨rm.1, rm.2.1⟩
    have rk' : roomy (D + 1) 24 = true := by simp [roomy]; omega
    have rk1 : 0 ≤ ((D + 1 : Nat) : Int) ∧ ((D + 1 : Nat) : Int) ≤ ((D + 1 : Nat) : Int) ∧ roomy ((D + 1 : Nat) : Int).toNat 24 = true := ⟨by omega, by omega, by rw [Int.toNat_natCast]; exact rk'⟩
    have rk0 : 0 ≤ ((D + 1 : Nat) : Int) ∧ ((D + 1 : Nat) : Int) ≤ ((D + 1 : Nat) : Int) := ⟨rk1.1, rk1.2.1⟩
    have wD : IntKind.i64.wrap ((D : Int) + 1) = ((D + 1 : Nat) : Int) := by rw [wrap_i64] <;> omega
    obtain ⟨_, els2, hne2, hel2, _⟩ := id hG2'
    rw [hnn] at hel2
    rw [hD] at hfy
    have ldTA : ∀ j k, loadV (M2 ++ [Blk.cells true [[farv]]]) k (.ptr m.length 0 j) = part [nv, rv] j k := fun j k => load_at0 (getElem?_grow hT2)
    have hLA : (M2 ++ [Blk.cells true [[farv]]]).length = M2.length + 1 := by simp
    have hLB : (M2 ++ [Blk.cells true [[farv]]] ++ [Blk.cells true (boolF n fun _ => false)]).length = M2.length + 2 := by simp
    generalize hMB : M2 ++ [Blk.cells true [[farv]]] ++ [Blk.cells true (boolF n fun _ => false)] ++ [Blk.cells true [[V.slice (M2.length + 1) 0 n n true 1]]] = MB
    have hMBl : MB.length = M2.length + 3 := by rw [← hMB]; simp
    have hgB : Grow M2 MB := by rw [← hMB]; exact (Grow.refl _).app.app.app
    have hBA : MB[M2.length]? = some (.cells true [[farv]]) := by rw [← hMB]; exact getElem?_grow (getElem?_grow (by simp))
    have hBo : MB[M2.length + 1]? = some (.cells true (boolF n fun _ => false)) := by rw [← hMB]; exact getElem?_grow (by rw [← hLA, List.getElem?_concat_length])
    have hBp : MB[M2.length + 2]? = some (.cells true [[V.slice (M2.length + 1) 0 n n true 1]]) := by
      have : M2.length + 2 = (M2 ++ [Blk.cells true [[farv]]] ++ [Blk.cells true (boolF n fun _ => false)]).length := by simp
      rw [← hMB, this, List.getElem?_concat_length]
    have slBo : Sl MB (.slice (M2.length + 1) 0 n n true 1) 1 (boolF n fun _ => false) := by have := Sl.mk (cap := n) (ex := true) (z := 1) hBo; rwa [boolF_len] at this
    have ixo := slBo.index (ki := .i64) (n := y) (by omega) (by rw [boolF_len]; omega)
    have sto := store_own (n := 1) (len := n) (cap := n) (z := 1) (ex := true) (x := .bool true) hBo (boolF_get hyn) rfl rfl rfl
    simp only [Int.toNat_natCast] at ixo
    simp only [V.cells, boolF_set] at sto
    have hBA2 : (MB.set (M2.length + 1) (.cells true (boolF n (upd (fun _ => false) y true))))[M2.length]? = some (.cells true [[farv]]) := set_get (by omega) hBA
    have hfarB : Sl (MB.set (M2.length + 1) (.cells true (boolF n (upd (fun _ => false) y true)))) farv 1 (intF n far) := hfar.grow (hgB.set (by omega) _)
    have hgB2 : Grow M2 (MB.set (M2.length + 1) (.cells true (boolF n (upd (fun _ => false) y true)))) := hgB.set (by omega) _
    have hBo2 : (MB.set (M2.length + 1) (.cells true (boolF n (upd (fun _ => false) y true))))[M2.length + 1]? = some (.cells true (boolF n (upd (fun _ => false) y true))) := set_self' hBo
    have hBp2 : (MB.set (M2.length + 1) (.cells true (boolF n (upd (fun _ => false) y true))))[M2.length + 2]? = some (.cells true [[V.slice (M2.length + 1) 0 n n true 1]]) := set_get (by omega) hBp
    have hl2 : (MB.set (M2.length + 1) (.cells true (boolF n (upd (fun _ => false) y true)))).length = M2.length + 3 := by simp [hMBl]
    have hb0 : List.replicate n [V.bool false] = boolF n (fun _ => false) := boolF_zero
    generalize hMC : MB.set (M2.length + 1) (.cells true (boolF n (upd (fun _ => false) y true))) = MC at *
    have lA := fun k => load_at0 (k := k) (j := 0) hBA2
    have lA2 : ∀ g k, loadV (MC ++ g) k (.ptr M2.length 0 0) = part [farv] 0 k := fun g k => load_at0 (getElem?_grow hBA2)
    have ixC := hfarB.index (ki := .i64) (n := y) (by omega) (by rw [intF_len]; omega)
    have ldC := fun o k => hfarB.load (o := o) (k := k) (intF_get hyn)
    simp only [Int.toNat_natCast] at ixC
    simp (maxDischargeDepth := 30) only [aft_mk, hfc, hfcl, ixy, ldy, hfy, hD, ldTA, hne2.len, hel2, rm, rm', rm0, hLA, hLB, hb0, hMB, ixo, sto, lA, ixC, ldC, wD, rk1, rk', rk0, lA2, hfar.len, intF_len, r0, List.append_nil, amL, args0, Nat.reduceEqDiff, reduceCtorEq, ↓reduceIte, Nat.reduceAdd, resultsA, results1, Int.reduceNeg, splice, Nat.reduceLeDiff, part, fillA, fillE, Nat.reduceLT]
    rw [show ([V.nils] :: List.replicate D [V.nils]) = vF (D + 1) (fun _ => V.nils) from vF_nils (n := D + 1)]
    have hFM0 : FM (M2.length + 4) (M2.length + 3) (MC ++ [Blk.cells true (vF (D + 1) fun _ => V.nils)]) (D + 1) (fun _ => .nils) (fun _ => []) :=
      ⟨by rw [← hl2, List.getElem?_concat_length], by omega, by simp; omega, fun p hp => .inl ⟨rfl, rfl⟩, fun p q hp hq hne x hx => by cases hx⟩
    rw [hl2]
    let I0 := fun (k : Nat) (fr : Frame) (M : Mem) => ∃ (i : Nat) (tv : Nat → V) (ls : Nat → List Nat), i ≤ n ∧ k = n - i ∧ fr 1 = .int .i64 (y : Nat) ∧ fr 2 = .ptr m.length 0 0 ∧ fr 8 = .ptr M2.length 0 0 ∧ fr 9 = .ptr (M2.length + 2) 0 0 ∧ fr 10 = .slice (M2.length + 3) 0 (D + 1) (D + 1) true 1 ∧ fr 54 = farv ∧ fr 55 = .int .i64 n ∧ fr 56 = .int .i64 (i : Nat) ∧ Grow MC M ∧ FM (M2.length + 4) (M2.length + 3) M (D + 1) tv ls ∧ (∀ d, d < D + 1 → ∀ p, p ∈ ls d ↔ p < i ∧ far p = (d : Int) ∧ d < D) ∧ ∀ d, d < D + 1 → (ls d).length ≤ i
    refine W_loop I0 ?_ n ?_
    · rintro k fr M ⟨i, tv, ls, hi, rfl, f1, f2, f8, f9, f10, f54, f55, f56, hg, hFM, hls, hlen⟩
      unfold graph_Way_l0
      simp (maxDischargeDepth := 30) only [f1, f2, f8, f9, f10, f54, f55, f56, amL, args0, Nat.reduceEqDiff, reduceCtorEq, ↓reduceIte, Nat.reduceAdd, resultsA, results1, Int.reduceNeg, splice, Nat.reduceLeDiff, part, fillA, fillE, Nat.reduceLT]
      have hfM := hfarB.grow hg
      have lAM := fun k => load_at0 (k := k) (j := 0) (hg.get hBA2)
      have ixy := hfM.index (ki := .i64) (n := y) (by omega) (by rw [intF_len]; omega)
      have ldy := fun o k => hfM.load (o := o) (k := k) (intF_get hyn)
      rw [hD] at ldy
      simp only [Int.toNat_natCast] at ixy
      by_cases hil : i < n
      · have hil' : (i : Int) < n := by omega
        have ixi := hfM.index (ki := .i64) (n := i) (by omega) (by rw [intF_len]; omega)
        have ldi := fun o k => hfM.load (o := o) (k := k) (intF_get hil)
        simp only [Int.toNat_natCast] at ixi
        have wi : IntKind.i64.wrap ((i : Int) + 1) = ((i + 1 : Nat) : Int) := by rw [wrap_i64] <;> omega
        by_cases h1 : 0 ≤ far i
        · by_cases h2 : far i < (D : Int)
          · obtain ⟨d, hd⟩ : ∃ d : Nat, far i = d := ⟨(far i).toNat, by omega⟩
            have hdD : d < D + 1 := by omega
            rw [hd] at ldi h1 h2
            have ixf := hFM.sl.index (ki := .i64) (n := d) (by omega) (by rw [vF_len]; omega)
            have ldf := fun o k => hFM.sl.load (o := o) (k := k) (vF_get hdD)
            have hcf := (hFM.g d hdD).sl.cell
            simp only [Int.toNat_natCast] at ixf
            have hlq := hlen d hdD
            have hBM := hFM.bl
            obtain ⟨u', M', p1, p2, p3, p4, p5, p6⟩ := hFM.push hdD i (by omega)
            simp (maxDischargeDepth := 30) only [hil', f1, f2, f8, f9, f10, f54, f55, f56, ixi, ldi, h1, h2, lAM, ixy, ldy, ixf, ldf, hcf, amL, args0, Nat.reduceEqDiff, reduceCtorEq, ↓reduceIte, Nat.reduceAdd, resultsA, results1, Int.reduceNeg, splice, Nat.reduceLeDiff, part, fillA, fillE, Nat.reduceLT]
            refine ⟨_, _, p1, ?_⟩
            simp (maxDischargeDepth := 30) only [f1, f2, f8, f9, f10, f54, f55, f56, ixf, p4, r0, List.append_nil, wi, amL, args0, Nat.reduceEqDiff, reduceCtorEq, ↓reduceIte, Nat.reduceAdd, resultsA, results1, Int.reduceNeg, splice, Nat.reduceLeDiff, part, fillA, fillE, Nat.reduceLT]
            refine ⟨_, ?_, i + 1, _, _, by omega, rfl, by simp (maxDischargeDepth := 30) only [f1, amL, args0, Nat.reduceEqDiff, reduceCtorEq, ↓reduceIte, Nat.reduceAdd, resultsA, results1, Int.reduceNeg, splice, Nat.reduceLeDiff, part, fillA, fillE, Nat.reduceLT], by simp (maxDischargeDepth := 30) only [f2, amL, args0, Nat.reduceEqDiff, reduceCtorEq, ↓reduceIte, Nat.reduceAdd, resultsA, results1, Int.reduceNeg, splice, Nat.reduceLeDiff, part, fillA, fillE, Nat.reduceLT], by simp (maxDischargeDepth := 30) only [f8, amL, args0, Nat.reduceEqDiff, reduceCtorEq, ↓reduceIte, Nat.reduceAdd, resultsA, results1, Int.reduceNeg, splice, Nat.reduceLeDiff, part, fillA, fillE, Nat.reduceLT], by simp (maxDischargeDepth := 30) only [f9, amL, args0, Nat.reduceEqDiff, reduceCtorEq, ↓reduceIte, Nat.reduceAdd, resultsA, results1, Int.reduceNeg, splice, Nat.reduceLeDiff, part, fillA, fillE, Nat.reduceLT], by simp (maxDischargeDepth := 30) only [f10, amL, args0, Nat.reduceEqDiff, reduceCtorEq, ↓reduceIte, Nat.reduceAdd, resultsA, results1, Int.reduceNeg, splice, Nat.reduceLeDiff, part, fillA, fillE, Nat.reduceLT], by simp (maxDischargeDepth := 30) only [f54, amL, args0, Nat.reduceEqDiff, reduceCtorEq, ↓reduceIte, Nat.reduceAdd, resultsA, results1, Int.reduceNeg, splice, Nat.reduceLeDiff, part, fillA, fillE, Nat.reduceLT], by simp (maxDischargeDepth := 30) only [f55, amL, args0, Nat.reduceEqDiff, reduceCtorEq, ↓reduceIte, Nat.reduceAdd, resultsA, results1, Int.reduceNeg, splice, Nat.reduceLeDiff, part, fillA, fillE, Nat.reduceLT], by simp (maxDischargeDepth := 30) only [amL, args0, Nat.reduceEqDiff, reduceCtorEq, ↓reduceIte, Nat.reduceAdd, resultsA, results1, Int.reduceNeg, splice, Nat.reduceLeDiff, part, fillA, fillE, Nat.reduceLT], Grow.keep' hg fun c z hc hz => p6 c z (by omega) (by omega) hz, p5, fun d' hd' p => ?_, fun d' hd' => ?_⟩
            · omega
            · by_cases e : d' = d
              · subst e
                rw [upd_self, List.mem_append, hls d' hd' p, List.mem_singleton]
                constructor
                · rintro (⟨a, b, c⟩ | rfl)
                  · exact ⟨by omega, b, c⟩
                  · exact ⟨by omega, hd, by omega⟩
                · rintro ⟨a, b, c⟩
                  by_cases e : p = i
                  · exact .inr e
                  · exact .inl ⟨by omega, b, c⟩
              · rw [upd_ne e, hls d' hd' p]
                constructor
                · rintro ⟨a, b, c⟩; exact ⟨by omega, b, c⟩
                · rintro ⟨a, b, c⟩
                  refine ⟨?_, b, c⟩
                  by_cases e2 : p = i
                  · rw [e2, hd] at b; omega
                  · omega
            · by_cases e : d' = d
              · subst e; rw [upd_self]; simp; omega
              · rw [upd_ne e]; have := hlen d' hd'; omega
          · simp (maxDischargeDepth := 30) only [hil', f1, f2, f8, f9, f10, f54, f55, f56, ixi, ldi, h1, h2, lAM, ixy, ldy, wi, amL, args0, Nat.reduceEqDiff, reduceCtorEq, ↓reduceIte, Nat.reduceAdd, resultsA, results1, Int.reduceNeg, splice, Nat.reduceLeDiff, part, fillA, fillE, Nat.reduceLT]
            refine ⟨_, ?_, i + 1, tv, ls, by omega, rfl, by simp (maxDischargeDepth := 30) only [f1, amL, args0, Nat.reduceEqDiff, reduceCtorEq, ↓reduceIte, Nat.reduceAdd, resultsA, results1, Int.reduceNeg, splice, Nat.reduceLeDiff, part, fillA, fillE, Nat.reduceLT], by simp (maxDischargeDepth := 30) only [f2, amL, args0, Nat.reduceEqDiff, reduceCtorEq, ↓reduceIte, Nat.reduceAdd, resultsA, results1, Int.reduceNeg, splice, Nat.reduceLeDiff, part, fillA, fillE, Nat.reduceLT], by simp (maxDischargeDepth := 30) only [f8, amL, args0, Nat.reduceEqDiff, reduceCtorEq, ↓reduceIte, Nat.reduceAdd, resultsA, results1, Int.reduceNeg, splice, Nat.reduceLeDiff, part, fillA, fillE, Nat.reduceLT], by simp (maxDischargeDepth := 30) only [f9, amL, args0, Nat.reduceEqDiff, reduceCtorEq, ↓reduceIte, Nat.reduceAdd, resultsA, results1, Int.reduceNeg, splice, Nat.reduceLeDiff, part, fillA, fillE, Nat.reduceLT], by simp (maxDischargeDepth := 30) only [f10, amL, args0, Nat.reduceEqDiff, reduceCtorEq, ↓reduceIte, Nat.reduceAdd, resultsA, results1, Int.reduceNeg, splice, Nat.reduceLeDiff, part, fillA, fillE, Nat.reduceLT], by simp (maxDischargeDepth := 30) only [f54, amL, args0, Nat.reduceEqDiff, reduceCtorEq, ↓reduceIte, Nat.reduceAdd, resultsA, results1, Int.reduceNeg, splice, Nat.reduceLeDiff, part, fillA, fillE, Nat.reduceLT], by simp (maxDischargeDepth := 30) only [f55, amL, args0, Nat.reduceEqDiff, reduceCtorEq, ↓reduceIte, Nat.reduceAdd, resultsA, results1, Int.reduceNeg, splice, Nat.reduceLeDiff, part, fillA, fillE, Nat.reduceLT], by simp (maxDischargeDepth := 30) only [amL, args0, Nat.reduceEqDiff, reduceCtorEq, ↓reduceIte, Nat.reduceAdd, resultsA, results1, Int.reduceNeg, splice, Nat.reduceLeDiff, part, fillA, fillE, Nat.reduceLT], hg, hFM, fun d hd p => ?_, fun d hd => by have := hlen d hd; omega⟩
            · omega
            · rw [hls d hd p]
              constructor
              · rintro ⟨a, b, c⟩; exact ⟨by omega, b, c⟩
              · rintro ⟨a, b, c⟩
                refine ⟨?_, b, c⟩
                by_cases e2 : p = i
                · rw [e2] at b; omega
                · omega
        · simp (maxDischargeDepth := 30) only [hil', f1, f2, f8, f9, f10, f54, f55, f56, ixi, ldi, h1, wi, amL, args0, Nat.reduceEqDiff, reduceCtorEq, ↓reduceIte, Nat.reduceAdd, resultsA, results1, Int.reduceNeg, splice, Nat.reduceLeDiff, part, fillA, fillE, Nat.reduceLT]
          refine ⟨_, ?_, i + 1, tv, ls, by omega, rfl, by simp (maxDischargeDepth := 30) only [f1, amL, args0, Nat.reduceEqDiff, reduceCtorEq, ↓reduceIte, Nat.reduceAdd, resultsA, results1, Int.reduceNeg, splice, Nat.reduceLeDiff, part, fillA, fillE, Nat.reduceLT], by simp (maxDischargeDepth := 30) only [f2, amL, args0, Nat.reduceEqDiff, reduceCtorEq, ↓reduceIte, Nat.reduceAdd, resultsA, results1, Int.reduceNeg, splice, Nat.reduceLeDiff, part, fillA, fillE, Nat.reduceLT], by simp (maxDischargeDepth := 30) only [f8, amL, args0, Nat.reduceEqDiff, reduceCtorEq, ↓reduceIte, Nat.reduceAdd, resultsA, results1, Int.reduceNeg, splice, Nat.reduceLeDiff, part, fillA, fillE, Nat.reduceLT], by simp (maxDischargeDepth := 30) only [f9, amL, args0, Nat.reduceEqDiff, reduceCtorEq, ↓reduceIte, Nat.reduceAdd, resultsA, results1, Int.reduceNeg, splice, Nat.reduceLeDiff, part, fillA, fillE, Nat.reduceLT], by simp (maxDischargeDepth := 30) only [f10, amL, args0, Nat.reduceEqDiff, reduceCtorEq, ↓reduceIte, Nat.reduceAdd, resultsA, results1, Int.reduceNeg, splice, Nat.reduceLeDiff, part, fillA, fillE, Nat.reduceLT], by simp (maxDischargeDepth := 30) only [f54, amL, args0, Nat.reduceEqDiff, reduceCtorEq, ↓reduceIte, Nat.reduceAdd, resultsA, results1, Int.reduceNeg, splice, Nat.reduceLeDiff, part, fillA, fillE, Nat.reduceLT], by simp (maxDischargeDepth := 30) only [f55, amL, args0, Nat.reduceEqDiff, reduceCtorEq, ↓reduceIte, Nat.reduceAdd, resultsA, results1, Int.reduceNeg, splice, Nat.reduceLeDiff, part, fillA, fillE, Nat.reduceLT], by simp (maxDischargeDepth := 30) only [amL, args0, Nat.reduceEqDiff, reduceCtorEq, ↓reduceIte, Nat.reduceAdd, resultsA, results1, Int.reduceNeg, splice, Nat.reduceLeDiff, part, fillA, fillE, Nat.reduceLT], hg, hFM, fun d hd p => ?_, fun d hd => by have := hlen d hd; omega⟩
          · omega
          · rw [hls d hd p]
            constructor
            · rintro ⟨a, b, c⟩; exact ⟨by omega, b, c⟩
            · rintro ⟨a, b, c⟩
              refine ⟨?_, b, c⟩
              by_cases e2 : p = i
              · rw [e2] at b; omega
              · omega
      · have hil' : ¬ (i : Int) < n := by omega
        have hie : i = n := by omega
        have wD1 : IntKind.i64.wrap ((D : Int) - 1) = (D : Int) - 1 := by rw [wrap_i64] <;> omega
        simp (maxDischargeDepth := 30) only [hil', f1, f2, f8, f9, f10, f54, f55, f56, lAM, ixy, ldy, wD1, amL, args0, Nat.reduceEqDiff, reduceCtorEq, ↓reduceIte, Nat.reduceAdd, resultsA, results1, Int.reduceNeg, splice, Nat.reduceLeDiff, part, fillA, fillE, Nat.reduceLT]
        have hgm3 : Grow m M := (hgm2.trans hgB2).trans hg
        have hbM := hFM.bl
        rw [hie] at hls hlen
        clear hil' hil hi hie wD1 lAM ixy ldy
        have hWS0 : WS M M2.length n (upd (fun _ => false) y true) (M ++ [Blk.cells true [[V.int .i64 ((D : Int) - 1)]]]) := ⟨fun c z _ hz => getElem?_grow hz, getElem?_grow (hg.get hBo2), by simp⟩
        -- what a memory with the same layers has
        have hway : ∀ on M', WS M M2.length n on M' → WB M' n M2.length (M2.length + 2) far on := fun on M' h => ⟨⟨farv, h.k _ _ (by omega) (hg.get hBA2), by
            have hff := hfar
            exact Sl.keepLt hff (fun c z hc hz => h.k c z (by omega) ((hgB2.trans hg).get hz))⟩, _, h.k _ _ (by omega) (hg.get hBp2), by have := Sl.mk (cap := n) (ex := true) (z := 1) h.on; rwa [boolF_len] at this⟩
        let I1 := fun (k : Nat) (fr : Frame) (M' : Mem) => ∃ (Pd : Nat) (on : Nat → Bool), k ≤ D ∧ fr 1 = .int .i64 (y : Nat) ∧ fr 2 = .ptr m.length 0 0 ∧ fr 8 = .ptr M2.length 0 0 ∧ fr 9 = .ptr (M2.length + 2) 0 0 ∧ fr 10 = .slice (M2.length + 3) 0 (D + 1) (D + 1) true 1 ∧ fr 13 = .ptr Pd 0 0 ∧ M.length ≤ Pd ∧ M'[Pd]? = some (.cells true [[.int .i64 ((k : Int) - 1)]]) ∧ WS M M2.length n on M' ∧ ∀ p, p < n → (on p = true ↔ OnW (toN N) far y p ∧ (k : Int) ≤ far p)
        refine W_loop I1 ?_ D ?_
        · clear f1 f2 f8 f9 f10 f54 f55 f56 fr
          rintro k fr M' ⟨Pd, on, hkD, f1, f2, f8, f9, f10, f13, hPd, hd, hWS, hon⟩
          unfold graph_Way_l1
          have lD := fun j => load_at0 (k := j) (j := 0) hd
          cases k with
          | zero =>
            have c0 : ¬ (0 : Int) ≤ ((0 : Nat) : Int) - 1 := by omega
            have hon' : ∀ p, p < n → (on p = true ↔ OnW (toN N) far y p) := fun p hp => by
              rw [hon p hp]
              exact ⟨fun h => h.1, fun h => ⟨h, by have := (h.far_le (by omega)).1; omega⟩⟩
            have hWB := hway on M' hWS
            have hgm' : Grow m M' := Grow.keep' hgm3 fun c z hc hz => hWS.k c z (by omega) hz
            have hT' : M'[m.length]? = some (.cells true [[nv, rv]]) := hWS.k _ _ (by omega) ((hgB2.trans hg).get hT2)
            have lT := fun j k => load_at0 (k := k) (j := j) hT'
            have hrs' : Sl M' rv 1 (nats (rootsN R)) := Sl.keepLt hrs2 fun c z hc hz => hWS.k c z (by omega) ((hgB2.trans hg).get hz)
            have hbR := Sl.beq hrs'
            simp (maxDischargeDepth := 30) only [f1, f2, f8, f9, f10, f13, lD, c0, lT, r0, List.append_nil, amL, args0, Nat.reduceEqDiff, reduceCtorEq, ↓reduceIte, Nat.reduceAdd, resultsA, results1, Int.reduceNeg, splice, Nat.reduceLeDiff, part, fillA, fillE, Nat.reduceLT]
            refine (IndexFunc_spec (b := on) (.inl hrs') hrl60 fun q hq => Way2_spec hWB (hRl q hq)).mono ?_
            rintro r9 M9 ⟨hMM, hres⟩
            rw [hMM]
            clear hMM
            have hdone : ∃ i r, (rootsN R)[i]? = some r ∧ on r = true ∧ (∀ (j z : Nat), j < i → (rootsN R)[j]? = some z → on z = false) := by
              rcases hres with ⟨i, r, h1, h2, h3, _⟩ | ⟨h1, _⟩
              · exact ⟨i, r, h1, h2, h3⟩
              · exfalso
                obtain ⟨r, hr, hor⟩ := OnW.root hF D y .here hD
                have := h1 r hr
                rw [(hon' r (hRl r hr)).2 hor] at this; cases this
            obtain ⟨i, r, h1, h2, h3, h4⟩ : ∃ i r, (rootsN R)[i]? = some r ∧ on r = true ∧ (∀ (j z : Nat), j < i → (rootsN R)[j]? = some z → on z = false) ∧ r9 = V.int .i64 (i : Nat) := by
              rcases hres with ⟨i, r, h1, h2, h3, h4⟩ | ⟨h1, _⟩
              · exact ⟨i, r, h1, h2, h3, h4⟩
              · exfalso
                obtain ⟨i, r, g1, g2, _⟩ := hdone
                rw [h1 r (List.mem_of_getElem? g1)] at g2; cases g2
            subst h4
            have hrl : (nats (rootsN R)).length = (rootsN R).length := by simp
            have hil := (List.getElem?_eq_some_iff.1 h1).1
            have ixr := hrs'.index (ki := .i64) (n := i) (by omega) (by omega)
            have ldr := fun o k => hrs'.load (o := o) (k := k) (nats_get h1)
            simp only [Int.toNat_natCast] at ixr
            have hlst0 : Lst r (fun p => p ∈ rootsN R ∧ OnW (toN N) far y p) := (lst_first (validG_roots hval) h1 h2 h3).congr fun z => and_congr_right fun hz => hon' z (hRl z hz)
            rw [aftC_mk]
            refine ⟨by simp [chkOk, wantedA, put_apply, Arg.get, lT, part, hbR], ?_⟩
            simp (maxDischargeDepth := 30) only [f1, f2, f8, f9, f10, f13, ixr, ldr, amL, args0, Nat.reduceEqDiff, reduceCtorEq, ↓reduceIte, Nat.reduceAdd, resultsA, results1, Int.reduceNeg, splice, Nat.reduceLeDiff, part, fillA, fillE, Nat.reduceLT]
            have hLM1 : (M' ++ [Blk.cells true [[V.int .i64 (r : Int)]]]).length = M'.length + 1 := by simp
            rw [hLM1]
            let I3 := fun (k : Nat) (fr : Frame) (M4 : Mem) => ∃ (W0 : List Nat) (p : Nat) (ov : V), W0.length ≤ D ∧ k = D - W0.length ∧ fr 1 = .int .i64 (y : Nat) ∧ fr 2 = .ptr m.length 0 0 ∧ fr 8 = .ptr M2.length 0 0 ∧ fr 9 = .ptr (M2.length + 2) 0 0 ∧ fr 17 = .ptr (M'.length + 1) 0 0 ∧ fr 18 = .int .i64 (p : Nat) ∧ Grow M' M4 ∧ M4[M'.length + 1]? = some (.cells true [[ov]]) ∧ GS M'.length M4 ov 1 (nats (W0 ++ [p])) ∧ blkOf ov ≠ some (M'.length + 1) ∧ WayPre (toN N) (rootsN R) far y (W0 ++ [p])
            refine W_loop I3 ?_ D ?_
            · clear f1 f2 f8 f9 f10 f13 fr
              rintro k fr M4 ⟨W0, p, ov, hW0, rfl, f1, f2, f8, f9, f17, f18, hg4, hbx, hgs, hnb, hpre⟩
              unfold graph_Way_l3
              obtain ⟨hop, hfp⟩ := hpre.get hF W0.length p (by simp)
              have lX := fun k => load_at0 (k := k) (j := 0) hbx
              have hgm4 := hgm'.trans hg4
              by_cases hpy : (p : Int) = y
              · have hpy' : p = y := by omega
                have c1 : ¬ ¬ (p : Int) = y := fun e => e hpy
                subst hpy'
                simp (maxDischargeDepth := 30) only [f1, f2, f8, f9, f17, f18, c1, lX, amL, args0, Nat.reduceEqDiff, reduceCtorEq, ↓reduceIte, Nat.reduceAdd, resultsA, results1, Int.reduceNeg, splice, Nat.reduceLeDiff, part, fillA, fillE, Nat.reduceLT]
                refine ⟨hgm4, far, hF, .inr ⟨by omega, ov, W0 ++ [p], rfl, hgs.weaken hgm'.len, hpre, by simp; omega⟩⟩
              · have hpy' : p ≠ y := fun e => hpy (by rw [e])
                obtain ⟨z, hz, g2, g3⟩ := hop.up hpy'
                have hzle := (g2.far_le (by omega)).2
                have hW1 : W0.length + 1 ≤ D := by rcases hzle with rfl | h <;> omega
                have lT4 := fun j k => load_at0 (k := k) (j := j) (hg4.get hT')
                have hpn : p < n := (hF.1 p (by omega)).2
                obtain ⟨nd, hnd⟩ : ∃ nd, N[p]? = some nd := ⟨_, List.getElem?_eq_getElem (by omega)⟩
                obtain ⟨_, els, hne, hel, hnds⟩ := hG.grow hgm4
                rw [hnn] at hel
                obtain ⟨tov, hte, htv⟩ := hnds p nd hnd
                rw [hto p nd hnd] at htv
                have ixn := hne.index (ki := .i64) (n := p) (by omega) (by omega)
                have ldn := fun o k => hne.load (o := o) (k := k) hte
                simp only [Int.toNat_natCast] at ixn
                have hfit : (toN N p).length < 2 ^ 60 := by
                  have h1 := hf.2.2 nd (List.mem_of_getElem? hnd)
                  rw [hto p nd hnd] at h1
                  simpa using h1
                have hWB4 : WB M4 n M2.length (M2.length + 2) far on := by
                  obtain ⟨⟨fv, a1, a2⟩, ov', a3, a4⟩ := hWB
                  exact ⟨⟨fv, hg4.get a1, a2.grow hg4⟩, ov', hg4.get a3, a4.grow hg4⟩
                simp (maxDischargeDepth := 30) only [f1, f2, f8, f9, f17, f18, hpy, lT4, ixn, ldn, amL, args0, Nat.reduceEqDiff, reduceCtorEq, ↓reduceIte, Nat.reduceAdd, resultsA, results1, Int.reduceNeg, splice, Nat.reduceLeDiff, part, fillA, fillE, Nat.reduceLT]
                refine (IndexFunc_spec (b := fun q => on q && decide (far q = ((W0 ++ [p]).length : Int))) htv.nats hfit fun q hq => Way3_spec hWB4 hbx hgs.sl (hlt p q hq)).mono ?_
                rintro r8 M8 ⟨hMM, hres8⟩
                rw [hMM]
                clear hMM
                have hbz : (on z && decide (far z = ((W0 ++ [p]).length : Int))) = true := by
                  simp only [Bool.and_eq_true, decide_eq_true_eq]
                  exact ⟨(hon' z (hlt p z hz)).2 g2, by simp; omega⟩
                obtain ⟨j, q, q1, q2, q3, q4⟩ : ∃ (j q : Nat), (toN N p)[j]? = some q ∧ (on q && decide (far q = ((W0 ++ [p]).length : Int))) = true ∧ (∀ (t z : Nat), t < j → (toN N p)[t]? = some z → (on z && decide (far z = ((W0 ++ [p]).length : Int))) = false) ∧ r8 = V.int .i64 (j : Nat) := by
                  rcases hres8 with ⟨j, q, q1, q2, q3, q4⟩ | ⟨q1, _⟩
                  · exact ⟨j, q, q1, q2, q3, q4⟩
                  · rw [q1 z hz] at hbz; cases hbz
                subst q4
                have hlstq : Lst q (fun q => q ∈ toN N p ∧ OnW (toN N) far y q ∧ far q = ((W0.length + 1 : Nat) : Int)) := (lst_first (hsrt p) q1 q2 q3).congr fun t => and_congr_right fun ht => by
                  simp only [Bool.and_eq_true, decide_eq_true_eq, List.length_append, List.length_singleton]
                  exact and_congr_left fun _ => hon' t (hlt p t ht)
                have hpre' := hpre.push hlstq
                have hjl := (List.getElem?_eq_some_iff.1 q1).1
                have htl : (nats (toN N p)).length = (toN N p).length := by simp
                have ixq := htv.nats.index (ki := .i64) (n := j) (by omega) (by omega)
                have ldq := fun o k => htv.nats.load (o := o) (k := k) (nats_get q1)
                simp only [Int.toNat_natCast] at ixq
                obtain ⟨ov', M5, p1, p2, p3, p4, p5⟩ := (hgs.app (g := [Blk.cells true [[V.int .i64 (q : Int)]]])).push (T := M4.length) (own := true) (x := [V.int .i64 (q : Int)]) (zero := [.int .i64 0]) (bytes := 8) rfl (by simp) (by simp [roomy]; omega) (by simp; have := hg4.len; omega)
                have hbl := (List.getElem?_eq_some_iff.1 hbx).1
                have hbx5 : M5[M'.length + 1]? = some (.cells true [[ov]]) := p3 _ _ hnb (getElem?_grow hbx)
                have hoc := p2.sl.cell
                have st5 := store_at0 (x := ov') (j := 0) (n := 1) hbx5 (by rw [cells_cell hoc]; rfl) (by simp) (by rw [cells_cell hoc]; simp [hoc])
                have e5 : splice [ov] 0 ov'.cells = [ov'] := by rw [cells_cell hoc]; rfl
                rw [e5] at st5
                have hnb' : blkOf ov' ≠ some (M'.length + 1) := by
                  rcases p4 with e | e
                  · rw [e]; exact hnb
                  · rw [e]; simp; omega
                simp (maxDischargeDepth := 30) only [aft_mk, ixq, ldq, f1, f2, f8, f9, f17, f18, lX, amL, args0, Nat.reduceEqDiff, reduceCtorEq, ↓reduceIte, Nat.reduceAdd, resultsA, results1, Int.reduceNeg, splice, Nat.reduceLeDiff, part, fillA, fillE, Nat.reduceLT]
                refine ⟨_, _, p1, ?_⟩
                simp (maxDischargeDepth := 30) only [f1, f2, f8, f9, f17, f18, st5, r0, List.append_nil, amL, args0, Nat.reduceEqDiff, reduceCtorEq, ↓reduceIte, Nat.reduceAdd, resultsA, results1, Int.reduceNeg, splice, Nat.reduceLeDiff, part, fillA, fillE, Nat.reduceLT]
                refine ⟨_, ?_, W0 ++ [p], q, ov', by simp; omega, rfl, by simp (maxDischargeDepth := 30) only [f1, amL, args0, Nat.reduceEqDiff, reduceCtorEq, ↓reduceIte, Nat.reduceAdd, resultsA, results1, Int.reduceNeg, splice, Nat.reduceLeDiff, part, fillA, fillE, Nat.reduceLT], by simp (maxDischargeDepth := 30) only [f2, amL, args0, Nat.reduceEqDiff, reduceCtorEq, ↓reduceIte, Nat.reduceAdd, resultsA, results1, Int.reduceNeg, splice, Nat.reduceLeDiff, part, fillA, fillE, Nat.reduceLT], by simp (maxDischargeDepth := 30) only [f8, amL, args0, Nat.reduceEqDiff, reduceCtorEq, ↓reduceIte, Nat.reduceAdd, resultsA, results1, Int.reduceNeg, splice, Nat.reduceLeDiff, part, fillA, fillE, Nat.reduceLT], by simp (maxDischargeDepth := 30) only [f9, amL, args0, Nat.reduceEqDiff, reduceCtorEq, ↓reduceIte, Nat.reduceAdd, resultsA, results1, Int.reduceNeg, splice, Nat.reduceLeDiff, part, fillA, fillE, Nat.reduceLT], by simp (maxDischargeDepth := 30) only [f17, amL, args0, Nat.reduceEqDiff, reduceCtorEq, ↓reduceIte, Nat.reduceAdd, resultsA, results1, Int.reduceNeg, splice, Nat.reduceLeDiff, part, fillA, fillE, Nat.reduceLT], by simp (maxDischargeDepth := 30) only [amL, args0, Nat.reduceEqDiff, reduceCtorEq, ↓reduceIte, Nat.reduceAdd, resultsA, results1, Int.reduceNeg, splice, Nat.reduceLeDiff, part, fillA, fillE, Nat.reduceLT], ?_, set_self' hbx5, ?_, hnb', hpre'⟩
                · simp; omega
                · exact (Grow.keep' hg4 fun c t hc ht => p3 c t (fun e => by have := (hgs.blk e).1; omega) (getElem?_grow ht)).set (by omega) _
                · have : nats (W0 ++ [p] ++ [q]) = nats (W0 ++ [p]) ++ [[V.int .i64 (q : Int)]] := by simp
                  rw [this]
                  exact p2.keep fun c t hc ht => set_get (fun e => hnb' (e ▸ hc)) ht
            · refine ⟨[], r, .slice M'.length 0 1 1 true 1, Nat.zero_le _, rfl, by simp (maxDischargeDepth := 30) only [f1, amL, args0, Nat.reduceEqDiff, reduceCtorEq, ↓reduceIte, Nat.reduceAdd, resultsA, results1, Int.reduceNeg, splice, Nat.reduceLeDiff, part, fillA, fillE, Nat.reduceLT], by simp (maxDischargeDepth := 30) only [f2, amL, args0, Nat.reduceEqDiff, reduceCtorEq, ↓reduceIte, Nat.reduceAdd, resultsA, results1, Int.reduceNeg, splice, Nat.reduceLeDiff, part, fillA, fillE, Nat.reduceLT], by simp (maxDischargeDepth := 30) only [f8, amL, args0, Nat.reduceEqDiff, reduceCtorEq, ↓reduceIte, Nat.reduceAdd, resultsA, results1, Int.reduceNeg, splice, Nat.reduceLeDiff, part, fillA, fillE, Nat.reduceLT], by simp (maxDischargeDepth := 30) only [f9, amL, args0, Nat.reduceEqDiff, reduceCtorEq, ↓reduceIte, Nat.reduceAdd, resultsA, results1, Int.reduceNeg, splice, Nat.reduceLeDiff, part, fillA, fillE, Nat.reduceLT], by simp (maxDischargeDepth := 30) only [amL, args0, Nat.reduceEqDiff, reduceCtorEq, ↓reduceIte, Nat.reduceAdd, resultsA, results1, Int.reduceNeg, splice, Nat.reduceLeDiff, part, fillA, fillE, Nat.reduceLT], by simp (maxDischargeDepth := 30) only [amL, args0, Nat.reduceEqDiff, reduceCtorEq, ↓reduceIte, Nat.reduceAdd, resultsA, results1, Int.reduceNeg, splice, Nat.reduceLeDiff, part, fillA, fillE, Nat.reduceLT], (Grow.refl _).app.app, by rw [← hLM1, List.getElem?_concat_length], .inr ⟨M'.length, true, [[V.int .i64 (r : Int)]], Nat.le_refl _, rfl, getElem?_grow (by simp), rfl⟩, by simp [blkOf], ⟨fun a ha => ?_, fun k a b ha hb => by simp at hb⟩⟩
              simp at ha
              subst ha
              exact hlst0
          | succ e =>
            have c0 : (0 : Int) ≤ ((e + 1 : Nat) : Int) - 1 := by omega
            have e1 : ((e + 1 : Nat) : Int) - 1 = (e : Int) := by omega
            rw [e1] at hd lD c0
            have heD : e < D + 1 := by omega
            have hFM' : FM (M2.length + 4) (M2.length + 3) M' (D + 1) tv ls := hFM.keep hWS.ln fun c z hc hz => hWS.k c z (by omega) hz
            have ixl := hFM'.sl.index (ki := .i64) (n := e) (by omega) (by rw [vF_len]; omega)
            have ldl := fun o k => hFM'.sl.load (o := o) (k := k) (vF_get heD)
            simp only [Int.toNat_natCast] at ixl
            have hgs := hFM'.g e heD
            have hcl := hgs.sl.cell
            have hnl : (nats (ls e)).length = (ls e).length := by simp
            have hll := hgs.sl.len
            rw [hnl] at hll
            simp (maxDischargeDepth := 30) only [f1, f2, f8, f9, f10, f13, lD, c0, ixl, ldl, hcl, hll, amL, args0, Nat.reduceEqDiff, reduceCtorEq, ↓reduceIte, Nat.reduceAdd, resultsA, results1, Int.reduceNeg, splice, Nat.reduceLeDiff, part, fillA, fillE, Nat.reduceLT]
            let I2 := fun (k : Nat) (fr : Frame) (M' : Mem) => ∃ (j : Nat) (on : Nat → Bool), j ≤ (ls e).length ∧ k = (ls e).length - j ∧ fr 1 = .int .i64 (y : Nat) ∧ fr 2 = .ptr m.length 0 0 ∧ fr 8 = .ptr M2.length 0 0 ∧ fr 9 = .ptr (M2.length + 2) 0 0 ∧ fr 10 = .slice (M2.length + 3) 0 (D + 1) (D + 1) true 1 ∧ fr 13 = .ptr Pd 0 0 ∧ fr 94 = tv e ∧ fr 95 = .int .i64 (ls e).length ∧ fr 96 = .int .i64 (j : Nat) ∧ M'[Pd]? = some (.cells true [[.int .i64 (e : Int)]]) ∧ WS M M2.length n on M' ∧ ∀ p, p < n → (on p = true ↔ OnW (toN N) far y p ∧ (((e + 1 : Nat) : Int) ≤ far p ∨ (far p = (e : Int) ∧ p ∈ (ls e).take j)))
            refine W_loop I2 ?_ (ls e).length ?_
            · clear f1 f2 f8 f9 f10 f13 fr hd lD hon hWS hFM' ixl ldl hgs hcl hll on M'
              rintro k fr M' ⟨j, on, hj, rfl, f1, f2, f8, f9, f10, f13, f94, f95, f96, hd, hWS, hon⟩
              unfold graph_Way_l2
              have lD := fun j => load_at0 (k := j) (j := 0) hd
              simp (maxDischargeDepth := 30) only [f1, f2, f8, f9, f10, f13, f94, f95, f96, amL, args0, Nat.reduceEqDiff, reduceCtorEq, ↓reduceIte, Nat.reduceAdd, resultsA, results1, Int.reduceNeg, splice, Nat.reduceLeDiff, part, fillA, fillE, Nat.reduceLT]
              by_cases hjl : j < (ls e).length
              · have hjl' : (j : Int) < (ls e).length := by omega
                obtain ⟨p, hp⟩ : ∃ p, (ls e)[j]? = some p := ⟨_, List.getElem?_eq_getElem hjl⟩
                obtain ⟨hpn, hpe, heD'⟩ := (hls e heD p).1 (List.mem_of_getElem? hp)
                have hFM' : FM (M2.length + 4) (M2.length + 3) M' (D + 1) tv ls := hFM.keep hWS.ln fun c z hc hz => hWS.k c z (by omega) hz
                have hgs := hFM'.g e heD
                have ixp := hgs.sl.index (ki := .i64) (n := j) (by omega) (by rw [hnl]; omega)
                have ldp := fun o k => hgs.sl.load (o := o) (k := k) (nats_get hp)
                simp only [Int.toNat_natCast] at ixp
                have hWB := hway on M' hWS
                have hgm' : Grow m M' := Grow.keep' hgm3 fun c z hc hz => hWS.k c z (by omega) hz
                have hT' : M'[m.length]? = some (.cells true [[nv, rv]]) := hWS.k _ _ (by omega) ((hgB2.trans hg).get hT2)
                have lT := fun j k => load_at0 (k := k) (j := j) hT'
                have hP9 : M'[M2.length + 2]? = some (.cells true [[V.slice (M2.length + 1) 0 n n true 1]]) := hWS.k _ _ (by omega) (hg.get hBp2)
                have lO := fun k => load_at0 (k := k) (j := 0) hP9
                obtain ⟨nd, hnd⟩ : ∃ nd, N[p]? = some nd := ⟨_, List.getElem?_eq_getElem (by omega)⟩
                obtain ⟨_, els, hne, hel, hnds⟩ := hG.grow hgm'
                rw [hnn] at hel
                obtain ⟨tov, hte, htv⟩ := hnds p nd hnd
                rw [hto p nd hnd] at htv
                have ixn := hne.index (ki := .i64) (n := p) (by omega) (by omega)
                have ldn := fun o k => hne.load (o := o) (k := k) hte
                simp only [Int.toNat_natCast] at ixn
                have hfit : (toN N p).length < 2 ^ 60 := by
                  have h1 := hf.2.2 nd (List.mem_of_getElem? hnd)
                  rw [hto p nd hnd] at h1
                  simpa using h1
                have wj : IntKind.i64.wrap ((j : Int) + 1) = ((j + 1 : Nat) : Int) := by
                  have := hlen e heD
                  rw [wrap_i64] <;> omega
                simp (maxDischargeDepth := 30) only [hjl', f1, f2, f8, f9, f10, f13, f94, f95, f96, ixp, ldp, lO, lT, ixn, ldn, r0, List.append_nil, amL, args0, Nat.reduceEqDiff, reduceCtorEq, ↓reduceIte, Nat.reduceAdd, resultsA, results1, Int.reduceNeg, splice, Nat.reduceLeDiff, part, fillA, fillE, Nat.reduceLT]
                refine (ContainsFunc_spec (b := fun q => on q && decide (far q = (e : Int) + 1)) htv.nats hfit fun q hq => Way1_spec hWB hd (by omega) (hlt p q hq)).mono ?_
                rintro _ M9 ⟨hMM, c, rfl, hc⟩
                rw [hMM]
                clear hMM
                have hbO : V.beq (V.slice (M2.length + 1) 0 n n true 1) (V.slice (M2.length + 1) 0 n n true 1) = true := by simp [V.beq]
                have ixo := hWB.o
                have slO : Sl M' (.slice (M2.length + 1) 0 n n true 1) 1 (boolF n on) := by have := Sl.mk (cap := n) (ex := true) (z := 1) hWS.on; rwa [boolF_len] at this
                have ixO := slO.index (ki := .i64) (n := p) (by omega) (by rw [boolF_len]; omega)
                have stO := store_own (n := 1) (len := n) (cap := n) (z := 1) (ex := true) (x := .bool c) hWS.on (boolF_get hpn) rfl rfl rfl
                simp only [Int.toNat_natCast] at ixO
                simp only [V.cells, boolF_set] at stO
                rw [aftC_mk]
                refine ⟨by simp [chkOk, wantedA, put_apply, Arg.get, lO, part, hbO, f9], ?_⟩
                simp (maxDischargeDepth := 30) only [f1, f2, f8, f9, f10, f13, f94, f95, f96, ixO, stO, r0, List.append_nil, wj, amL, args0, Nat.reduceEqDiff, reduceCtorEq, ↓reduceIte, Nat.reduceAdd, resultsA, results1, Int.reduceNeg, splice, Nat.reduceLeDiff, part, fillA, fillE, Nat.reduceLT]
                refine ⟨_, ?_, j + 1, upd on p c, by omega, rfl, by simp (maxDischargeDepth := 30) only [f1, amL, args0, Nat.reduceEqDiff, reduceCtorEq, ↓reduceIte, Nat.reduceAdd, resultsA, results1, Int.reduceNeg, splice, Nat.reduceLeDiff, part, fillA, fillE, Nat.reduceLT], by simp (maxDischargeDepth := 30) only [f2, amL, args0, Nat.reduceEqDiff, reduceCtorEq, ↓reduceIte, Nat.reduceAdd, resultsA, results1, Int.reduceNeg, splice, Nat.reduceLeDiff, part, fillA, fillE, Nat.reduceLT], by simp (maxDischargeDepth := 30) only [f8, amL, args0, Nat.reduceEqDiff, reduceCtorEq, ↓reduceIte, Nat.reduceAdd, resultsA, results1, Int.reduceNeg, splice, Nat.reduceLeDiff, part, fillA, fillE, Nat.reduceLT], by simp (maxDischargeDepth := 30) only [f9, amL, args0, Nat.reduceEqDiff, reduceCtorEq, ↓reduceIte, Nat.reduceAdd, resultsA, results1, Int.reduceNeg, splice, Nat.reduceLeDiff, part, fillA, fillE, Nat.reduceLT], by simp (maxDischargeDepth := 30) only [f10, amL, args0, Nat.reduceEqDiff, reduceCtorEq, ↓reduceIte, Nat.reduceAdd, resultsA, results1, Int.reduceNeg, splice, Nat.reduceLeDiff, part, fillA, fillE, Nat.reduceLT], by simp (maxDischargeDepth := 30) only [f13, amL, args0, Nat.reduceEqDiff, reduceCtorEq, ↓reduceIte, Nat.reduceAdd, resultsA, results1, Int.reduceNeg, splice, Nat.reduceLeDiff, part, fillA, fillE, Nat.reduceLT], by simp (maxDischargeDepth := 30) only [f94, amL, args0, Nat.reduceEqDiff, reduceCtorEq, ↓reduceIte, Nat.reduceAdd, resultsA, results1, Int.reduceNeg, splice, Nat.reduceLeDiff, part, fillA, fillE, Nat.reduceLT], by simp (maxDischargeDepth := 30) only [f95, amL, args0, Nat.reduceEqDiff, reduceCtorEq, ↓reduceIte, Nat.reduceAdd, resultsA, results1, Int.reduceNeg, splice, Nat.reduceLeDiff, part, fillA, fillE, Nat.reduceLT], by simp (maxDischargeDepth := 30) only [amL, args0, Nat.reduceEqDiff, reduceCtorEq, ↓reduceIte, Nat.reduceAdd, resultsA, results1, Int.reduceNeg, splice, Nat.reduceLeDiff, part, fillA, fillE, Nat.reduceLT], set_get (by omega) hd, ⟨fun c z h1 h2 => set_get (Ne.symm h1) (hWS.k c z h1 h2), set_self' hWS.on, by simp; exact hWS.ln⟩, fun q hq => ?_⟩
                · omega
                · obtain ⟨j1, j2⟩ := List.getElem?_eq_some_iff.1 hp
                  rw [List.take_succ_eq_append_getElem j1, j2, List.mem_append, List.mem_singleton]
                  by_cases eq : q = p
                  · subst eq
                    rw [upd_self, hc]
                    constructor
                    · rintro ⟨z, hz, hb⟩
                      simp only [Bool.and_eq_true, decide_eq_true_eq] at hb
                      obtain ⟨g1, _⟩ := (hon z (hlt q z hz)).1 hb.1
                      exact ⟨.step g1 hz (by omega) (by omega), .inr ⟨hpe, .inr rfl⟩⟩
                    · rintro ⟨g1, _⟩
                      have hqy : q ≠ y := fun e2 => by rw [e2, hD] at hpe; omega
                      obtain ⟨z, hz, g2, g3⟩ := g1.up hqy
                      refine ⟨z, hz, ?_⟩
                      simp only [Bool.and_eq_true, decide_eq_true_eq]
                      exact ⟨(hon z (hlt q z hz)).2 ⟨g2, .inl (by omega)⟩, by omega⟩
                  · rw [upd_ne eq, hon q hq]
                    constructor
                    · rintro ⟨g1, g2 | ⟨g2, g3⟩⟩
                      · exact ⟨g1, .inl g2⟩
                      · exact ⟨g1, .inr ⟨g2, .inl g3⟩⟩
                    · rintro ⟨g1, g2 | ⟨g2, g3 | g3⟩⟩
                      · exact ⟨g1, .inl g2⟩
                      · exact ⟨g1, .inr ⟨g2, g3⟩⟩
                      · exact absurd g3 eq
              · have hjl' : ¬ (j : Int) < (ls e).length := by omega
                have hje : j = (ls e).length := by omega
                rw [hje, List.take_length] at hon
                have we : IntKind.i64.wrap ((e : Int) - 1) = (e : Int) - 1 := by rw [wrap_i64] <;> omega
                simp (maxDischargeDepth := 30) only [hjl', f1, f2, f8, f9, f10, f13, f94, f95, f96, lD, we, amL, args0, Nat.reduceEqDiff, reduceCtorEq, ↓reduceIte, Nat.reduceAdd, resultsA, results1, Int.reduceNeg, splice, Nat.reduceLeDiff, part, fillA, fillE, Nat.reduceLT]
                refine ⟨e, by omega, M'.length, on, by omega, by simp (maxDischargeDepth := 30) only [f1, amL, args0, Nat.reduceEqDiff, reduceCtorEq, ↓reduceIte, Nat.reduceAdd, resultsA, results1, Int.reduceNeg, splice, Nat.reduceLeDiff, part, fillA, fillE, Nat.reduceLT], by simp (maxDischargeDepth := 30) only [f2, amL, args0, Nat.reduceEqDiff, reduceCtorEq, ↓reduceIte, Nat.reduceAdd, resultsA, results1, Int.reduceNeg, splice, Nat.reduceLeDiff, part, fillA, fillE, Nat.reduceLT], by simp (maxDischargeDepth := 30) only [f8, amL, args0, Nat.reduceEqDiff, reduceCtorEq, ↓reduceIte, Nat.reduceAdd, resultsA, results1, Int.reduceNeg, splice, Nat.reduceLeDiff, part, fillA, fillE, Nat.reduceLT], by simp (maxDischargeDepth := 30) only [f9, amL, args0, Nat.reduceEqDiff, reduceCtorEq, ↓reduceIte, Nat.reduceAdd, resultsA, results1, Int.reduceNeg, splice, Nat.reduceLeDiff, part, fillA, fillE, Nat.reduceLT], by simp (maxDischargeDepth := 30) only [f10, amL, args0, Nat.reduceEqDiff, reduceCtorEq, ↓reduceIte, Nat.reduceAdd, resultsA, results1, Int.reduceNeg, splice, Nat.reduceLeDiff, part, fillA, fillE, Nat.reduceLT], by simp (maxDischargeDepth := 30) only [amL, args0, Nat.reduceEqDiff, reduceCtorEq, ↓reduceIte, Nat.reduceAdd, resultsA, results1, Int.reduceNeg, splice, Nat.reduceLeDiff, part, fillA, fillE, Nat.reduceLT], hWS.ln, by simp, ⟨fun c z h1 h2 => getElem?_grow (hWS.k c z h1 h2), getElem?_grow hWS.on, by simp; have := hWS.ln; omega⟩, fun p hp => ?_⟩
                rw [hon p hp]
                constructor
                · rintro ⟨g1, g2 | ⟨g2, _⟩⟩
                  · exact ⟨g1, by omega⟩
                  · exact ⟨g1, by omega⟩
                · rintro ⟨g1, g2⟩
                  refine ⟨g1, ?_⟩
                  by_cases e3 : far p = (e : Int)
                  · refine .inr ⟨e3, (hls e heD p).2 ⟨hp, e3, by omega⟩⟩
                  · exact .inl (by omega)
            · exact ⟨0, on, Nat.zero_le _, rfl, by simp (maxDischargeDepth := 30) only [f1, amL, args0, Nat.reduceEqDiff, reduceCtorEq, ↓reduceIte, Nat.reduceAdd, resultsA, results1, Int.reduceNeg, splice, Nat.reduceLeDiff, part, fillA, fillE, Nat.reduceLT], by simp (maxDischargeDepth := 30) only [f2, amL, args0, Nat.reduceEqDiff, reduceCtorEq, ↓reduceIte, Nat.reduceAdd, resultsA, results1, Int.reduceNeg, splice, Nat.reduceLeDiff, part, fillA, fillE, Nat.reduceLT], by simp (maxDischargeDepth := 30) only [f8, amL, args0, Nat.reduceEqDiff, reduceCtorEq, ↓reduceIte, Nat.reduceAdd, resultsA, results1, Int.reduceNeg, splice, Nat.reduceLeDiff, part, fillA, fillE, Nat.reduceLT], by simp (maxDischargeDepth := 30) only [f9, amL, args0, Nat.reduceEqDiff, reduceCtorEq, ↓reduceIte, Nat.reduceAdd, resultsA, results1, Int.reduceNeg, splice, Nat.reduceLeDiff, part, fillA, fillE, Nat.reduceLT], by simp (maxDischargeDepth := 30) only [f10, amL, args0, Nat.reduceEqDiff, reduceCtorEq, ↓reduceIte, Nat.reduceAdd, resultsA, results1, Int.reduceNeg, splice, Nat.reduceLeDiff, part, fillA, fillE, Nat.reduceLT], by simp (maxDischargeDepth := 30) only [f13, amL, args0, Nat.reduceEqDiff, reduceCtorEq, ↓reduceIte, Nat.reduceAdd, resultsA, results1, Int.reduceNeg, splice, Nat.reduceLeDiff, part, fillA, fillE, Nat.reduceLT], by simp (maxDischargeDepth := 30) only [amL, args0, Nat.reduceEqDiff, reduceCtorEq, ↓reduceIte, Nat.reduceAdd, resultsA, results1, Int.reduceNeg, splice, Nat.reduceLeDiff, part, fillA, fillE, Nat.reduceLT], by simp (maxDischargeDepth := 30) only [amL, args0, Nat.reduceEqDiff, reduceCtorEq, ↓reduceIte, Nat.reduceAdd, resultsA, results1, Int.reduceNeg, splice, Nat.reduceLeDiff, part, fillA, fillE, Nat.reduceLT], by simp (maxDischargeDepth := 30) only [amL, args0, Nat.reduceEqDiff, reduceCtorEq, ↓reduceIte, Nat.reduceAdd, resultsA, results1, Int.reduceNeg, splice, Nat.reduceLeDiff, part, fillA, fillE, Nat.reduceLT]; rfl, hd, hWS, fun p hp => by rw [hon p hp]; simp⟩
        · refine ⟨M.length, _, Nat.le_refl _, by simp (maxDischargeDepth := 30) only [f1, amL, args0, Nat.reduceEqDiff, reduceCtorEq, ↓reduceIte, Nat.reduceAdd, resultsA, results1, Int.reduceNeg, splice, Nat.reduceLeDiff, part, fillA, fillE, Nat.reduceLT], by simp (maxDischargeDepth := 30) only [f2, amL, args0, Nat.reduceEqDiff, reduceCtorEq, ↓reduceIte, Nat.reduceAdd, resultsA, results1, Int.reduceNeg, splice, Nat.reduceLeDiff, part, fillA, fillE, Nat.reduceLT], by simp (maxDischargeDepth := 30) only [f8, amL, args0, Nat.reduceEqDiff, reduceCtorEq, ↓reduceIte, Nat.reduceAdd, resultsA, results1, Int.reduceNeg, splice, Nat.reduceLeDiff, part, fillA, fillE, Nat.reduceLT], by simp (maxDischargeDepth := 30) only [f9, amL, args0, Nat.reduceEqDiff, reduceCtorEq, ↓reduceIte, Nat.reduceAdd, resultsA, results1, Int.reduceNeg, splice, Nat.reduceLeDiff, part, fillA, fillE, Nat.reduceLT], by simp (maxDischargeDepth := 30) only [f10, amL, args0, Nat.reduceEqDiff, reduceCtorEq, ↓reduceIte, Nat.reduceAdd, resultsA, results1, Int.reduceNeg, splice, Nat.reduceLeDiff, part, fillA, fillE, Nat.reduceLT], by simp (maxDischargeDepth := 30) only [amL, args0, Nat.reduceEqDiff, reduceCtorEq, ↓reduceIte, Nat.reduceAdd, resultsA, results1, Int.reduceNeg, splice, Nat.reduceLeDiff, part, fillA, fillE, Nat.reduceLT], Nat.le_refl _, by simp, hWS0, fun p hp => ?_⟩
          by_cases e : p = y
          · subst e
            rw [upd_self]
            simp only [true_iff]
            exact ⟨.here, by omega⟩
          · rw [upd_ne e]
            simp only [Bool.false_eq_true, false_iff]
            rintro ⟨h1, h2⟩
            rcases (h1.far_le (by omega)).2 with h3 | h3
            · exact e h3
            · omega
    · exact ⟨0, _, _, Nat.zero_le _, rfl, by simp (maxDischargeDepth := 30) only [amL, args0, Nat.reduceEqDiff, reduceCtorEq, ↓reduceIte, Nat.reduceAdd, resultsA, results1, Int.reduceNeg, splice, Nat.reduceLeDiff, part, fillA, fillE, Nat.reduceLT], by simp (maxDischargeDepth := 30) only [amL, args0, Nat.reduceEqDiff, reduceCtorEq, ↓reduceIte, Nat.reduceAdd, resultsA, results1, Int.reduceNeg, splice, Nat.reduceLeDiff, part, fillA, fillE, Nat.reduceLT], by simp (maxDischargeDepth := 30) only [amL, args0, Nat.reduceEqDiff, reduceCtorEq, ↓reduceIte, Nat.reduceAdd, resultsA, results1, Int.reduceNeg, splice, Nat.reduceLeDiff, part, fillA, fillE, Nat.reduceLT], by simp (maxDischargeDepth := 30) only [amL, args0, Nat.reduceEqDiff, reduceCtorEq, ↓reduceIte, Nat.reduceAdd, resultsA, results1, Int.reduceNeg, splice, Nat.reduceLeDiff, part, fillA, fillE, Nat.reduceLT], by simp (maxDischargeDepth := 30) only [amL, args0, Nat.reduceEqDiff, reduceCtorEq, ↓reduceIte, Nat.reduceAdd, resultsA, results1, Int.reduceNeg, splice, Nat.reduceLeDiff, part, fillA, fillE, Nat.reduceLT], by simp (maxDischargeDepth := 30) only [amL, args0, Nat.reduceEqDiff, reduceCtorEq, ↓reduceIte, Nat.reduceAdd, resultsA, results1, Int.reduceNeg, splice, Nat.reduceLeDiff, part, fillA, fillE, Nat.reduceLT], by simp (maxDischargeDepth := 30) only [amL, args0, Nat.reduceEqDiff, reduceCtorEq, ↓reduceIte, Nat.reduceAdd, resultsA, results1, Int.reduceNeg, splice, Nat.reduceLeDiff, part, fillA, fillE, Nat.reduceLT], by simp (maxDischargeDepth := 30) only [amL, args0, Nat.reduceEqDiff, reduceCtorEq, ↓reduceIte, Nat.reduceAdd, resultsA, results1, Int.reduceNeg, splice, Nat.reduceLeDiff, part, fillA, fillE, Nat.reduceLT]; rfl, (Grow.refl _).app, hFM0, fun d hd p => by simp, fun d hd => by simp⟩
end Go.AM.G
