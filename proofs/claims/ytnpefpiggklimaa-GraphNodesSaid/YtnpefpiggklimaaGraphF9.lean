/- The document's answer: Way. -/
import Derived.Test.YtnpefpiggklimaaGraphF7
import Derived.Test.YtnpefpiggklimaaGraphWay
set_option linter.unusedVariables false
set_option linter.unusedSimpArgs false
set_option maxRecDepth 100000
namespace Go.AM.G
open Go Go.AM
/-- a row of rows, each of its own. -/
structure FR (B F : Nat) (M : Mem) (k : Nat) (tv : Nat → V) (ls : Nat → List Nat) : Prop where
  fb : M[F]? = some (.cells true (vF k tv))
  lt : F < B
  g : ∀ p, p < k → GS B M (tv p) 1 (nats (ls p))
section
variable {B F k : Nat} {M : Mem} {tv : Nat → V} {ls : Nat → List Nat}
theorem FR.sl (h : FR B F M k tv ls) : Sl M (.slice F 0 k k true 1) 1 (vF k tv) := by have := Sl.mk (cap := k) (ex := true) (z := 1) h.fb; rwa [vF_len] at this
theorem FR.ix (h : FR B F M k tv ls) {p : Nat} (hp : p < k) : asIndex 1 (.slice F 0 k k true 1) (.int .i64 (p : Int)) = some (atp (.slice F 0 k k true 1) p 0) := by
  have := h.sl.index (ki := .i64) (n := p) (by omega) (by rw [vF_len]; omega)
  simpa using this
theorem FR.ld (h : FR B F M k tv ls) {p : Nat} (hp : p < k) : loadV M none (atp (.slice F 0 k k true 1) p 0) = some (tv p) := by
  rw [h.sl.load (vF_get hp)]; rfl
theorem FR.grow {M' : Mem} (h : FR B F M k tv ls) (hg : Grow M M') : FR B F M' k tv ls := ⟨hg.get h.fb, h.lt, fun p hp => (h.g p hp).keep fun c y _ hy => hg.get hy⟩
theorem FR.put (h : FR B F M k tv ls) {q : Nat} (hq : q < k) {r : V} {l' : List Nat} (hr : GS B M r 1 (nats l')) : storeV M 1 (atp (.slice F 0 k k true 1) q 0) r = some (M.set F (.cells true (vF k (upd tv q r)))) ∧ FR B F (M.set F (.cells true (vF k (upd tv q r)))) k (upd tv q r) (upd ls q l') := by
  have hc := hr.sl.cell
  have st := store_own (n := 1) (len := k) (cap := k) (z := 1) (ex := true) (x := r) h.fb (vF_get hq) rfl (by rw [cells_cell hc]; rfl) (by rw [cells_cell hc]; simp [hc])
  rw [cells_cell hc, vF_set] at st
  refine ⟨st, set_self' h.fb, h.lt, fun p hp => ?_⟩
  have hlt := h.lt
  by_cases e : p = q
  · subst e
    rw [upd_self, upd_self]
    exact hr.keep fun c y hc hy => set_get (by have := (hr.blk hc).1; omega) hy
  · rw [upd_ne e, upd_ne e]
    exact (h.g p hp).keep fun c y hc hy => set_get (by have := ((h.g p hp).blk hc).1; omega) hy
end
section
variable {to : Nat → List Nat} {src : List Nat} {n y : Nat} {f g : Nat → Int}
theorem FarOK.agree (h : FarOK to src n f) (k : FarOK to src n g) {p : Nat} (hp : 0 ≤ f p) : g p = f p := by
  have h1 := k.2 _ p (h.1 p hp).1
  have h2 := h.2 _ p (k.1 p h1.1).1
  omega
theorem FarOK.iff (h : FarOK to src n f) (k : FarOK to src n g) (p : Nat) (j : Nat) : f p = (j : Int) ↔ g p = (j : Int) := by
  constructor
  · intro e; rw [h.agree k (by omega)]; exact e
  · intro e; rw [k.agree h (by omega)]; exact e
theorem OnW.conv (h : FarOK to src n f) (k : FarOK to src n g) {p : Nat} (w : OnW to f y p) : OnW to g y p := by
  induction w with
  | here => exact .here
  | step h1 h2 h3 h4 ih =>
    have e1 := h.agree k h4
    have e2 := h.agree k (p := _) (show 0 ≤ f _ by rw [h3]; omega)
    exact .step ih h2 (by rw [e1, e2, h3]) (by rw [e1]; exact h4)
theorem WayIs.conv (h : FarOK to src n f) (k : FarOK to src n g) (hy : 0 ≤ f y) {W : List Nat} (w : WayIs to src f y W) : WayIs to src g y W := by
  obtain ⟨⟨w1, w2⟩, w3⟩ := w
  refine ⟨⟨fun x hx => (w1 x hx).congr fun z => and_congr_right fun _ => ⟨fun a => a.conv h k, fun a => a.conv k h⟩, fun j x z hx hz => (w2 j x z hx hz).congr fun q => and_congr_right fun _ => and_congr ⟨fun a => a.conv h k, fun a => a.conv k h⟩ (h.iff k q (j + 1))⟩, ?_⟩
  rw [w3, h.agree k hy]
end
/-- the rows of those that are on some shortest way, by how far they are. -/
def RowAt (to : Nat → List Nat) (far : Nat → Int) (y j : Nat) (l : List Nat) : Prop := l.Pairwise (· < ·) ∧ ∀ p, p ∈ l ↔ far p = (j : Int) ∧ OnW to far y p
theorem refWay_spec {m : Mem} {nv rv : V} {N : List NodeA} {R : List Int} (hG : Gr m nv rv N R) (hf : Fits N R) (ha : ∀ x, x ∈ N → 0 ≤ x.addr) (x : Int) :
    C S n_ref31_Way [.agg [nv, rv], .int .i64 x] m (fun r m' => Grow m m' ∧ if validG N R = true then (if x < 0 ∨ (N.length : Int) ≤ x then r = .tup [.nils, .int .i64 1] else ∃ far, FarOK (toN N) (rootsN R) N.length far ∧ ((far x.toNat < 0 ∧ r = .tup [.nils, .int .i64 3]) ∨ (0 ≤ far x.toNat ∧ ∃ v W, r = .tup [v, .int .i64 0] ∧ Sl m' v 1 (nats W) ∧ WayIs (toN N) (rootsN R) far x.toNat W))) else r = .tup [.nils, .int .i64 2]) := by
  refine C_body rfl rfl rfl ?_
  unfold ref31_Way
  obtain ⟨hc1, hc2⟩ := hG.cells
  obtain ⟨_, els, hne, hel, hnd⟩ := id hG
  have hnl := hne.len
  rw [hel] at hnl
  have r0 : List.replicate 0 Blk.dead = [] := rfl
  simp (maxDischargeDepth := 30) only [hc1, hc2, amL, args0, Nat.reduceEqDiff, reduceCtorEq, ↓reduceIte, Nat.reduceAdd, resultsA, results1, Int.reduceNeg, splice, Nat.reduceLeDiff, part, fillA, fillE, Nat.reduceLT]
  refine (refCheck_spec (hG.grow (Grow.refl _).app) hf ha).mono ?_
  rintro _ M1 ⟨rfl, hg1⟩
  have hgm1 : Grow m M1 := (Grow.refl m).app.trans hg1
  have hT1 : M1[m.length]? = some (.cells true [[nv, rv]]) := hg1.get (by simp)
  have ldT1 := fun j k => load_at0 (k := k) (j := j) hT1
  cases hval : validG N R with
  | false =>
    have c2 : ¬ (2 : Int) = 0 := by decide
    simp (maxDischargeDepth := 30) only [aft_mk, c2, Bool.false_eq_true, amL, args0, Nat.reduceEqDiff, reduceCtorEq, ↓reduceIte, Nat.reduceAdd, resultsA, results1, Int.reduceNeg, splice, Nat.reduceLeDiff, part, fillA, fillE, Nat.reduceLT]
    exact hgm1
  | true =>
  have c00 : ¬ ¬ (0 : Int) = 0 := by omega
  by_cases h1 : x < 0
  · simp (maxDischargeDepth := 30) only [aft_mk, c00, h1, true_or, amL, args0, Nat.reduceEqDiff, reduceCtorEq, ↓reduceIte, Nat.reduceAdd, resultsA, results1, Int.reduceNeg, splice, Nat.reduceLeDiff, part, fillA, fillE, Nat.reduceLT]
    exact hgm1
  by_cases h2 : (N.length : Int) ≤ x
  · simp (maxDischargeDepth := 30) only [aft_mk, c00, h1, h2, or_true, ldT1, hnl, amL, args0, Nat.reduceEqDiff, reduceCtorEq, ↓reduceIte, Nat.reduceAdd, resultsA, results1, Int.reduceNeg, splice, Nat.reduceLeDiff, part, fillA, fillE, Nat.reduceLT]
    exact hgm1
  obtain ⟨y, rfl⟩ : ∃ y : Nat, x = y := ⟨x.toNat, by omega⟩
  have hyn : y < N.length := by omega
  obtain ⟨hn, hto, hlt, hR, hRl, hTs⟩ := valid_to hval
  simp (maxDischargeDepth := 30) only [aft_mk, c00, h1, h2, or_self, ldT1, hnl, hc1, hc2, amL, args0, Nat.reduceEqDiff, reduceCtorEq, ↓reduceIte, Nat.reduceAdd, resultsA, results1, Int.reduceNeg, splice, Nat.reduceLeDiff, part, fillA, fillE, Nat.reduceLT]
  refine (far_spec (hG.grow hgm1) hf hval).mono ?_
  rintro fv M2 ⟨hg2, far, hfv, hfar⟩
  have hgm2 := hgm1.trans hg2
  have ixf : ∀ M : Mem, Grow M2 M → ∀ p : Nat, p < N.length → asIndex 1 fv (.int .i64 (p : Int)) = some (atp fv p 0) ∧ ∀ k', loadV M k' (atp fv p 0) = part [.int .i64 (far p)] 0 k' := fun M hg p hp => by
    have a := (hfv.grow hg).index (ki := .i64) (n := p) (by omega) (by rw [intF_len]; omega)
    simp only [Int.toNat_natCast] at a
    exact ⟨a, fun k' => (hfv.grow hg).load (intF_get hp)⟩
  obtain ⟨ixy, ldy⟩ := ixf M2 (Grow.refl _) y hyn
  by_cases hneg : far y < 0
  · simp (maxDischargeDepth := 30) only [aft_mk, ixy, ldy, hneg, Int.toNat_natCast, or_self, amL, args0, Nat.reduceEqDiff, reduceCtorEq, ↓reduceIte, Nat.reduceAdd, resultsA, results1, Int.reduceNeg, splice, Nat.reduceLeDiff, part, fillA, fillE, Nat.reduceLT]
    exact ⟨hgm2, far, hfar, .inl hneg⟩
  obtain ⟨D, hD⟩ : ∃ D : Nat, far y = D := ⟨(far y).toNat, by omega⟩
  have hDn : D < N.length := by have := hfar.lt (p := y) (by omega); omega
  have hneg' : ¬ (D : Int) < 0 := by omega
  have wD : IntKind.i64.wrap ((D : Int) + 1) = ((D + 1 : Nat) : Int) := by rw [wrap_i64] <;> omega
  have wD' : IntKind.i64.wrap ((D : Int) - 1) = (D : Int) - 1 := by rw [wrap_i64] <;> omega
  have rm : roomy (D + 1) 24 = true := by simp [roomy]; omega
  have rz : (0 ≤ ((D + 1 : Nat) : Int) ∧ ((D + 1 : Nat) : Int) ≤ ((D + 1 : Nat) : Int)) = True := eq_true (by omega)
  rw [hD] at ldy
  generalize hM3 : M2 ++ [Blk.cells true (vF (D + 1) fun _ => .nils)] = M3
  have hg3 : Grow M2 M3 := by rw [← hM3]; exact (Grow.refl _).app
  have hM3l : M3.length = M2.length + 1 := by rw [← hM3]; simp
  have hFR3 : FR (M2.length + 1) M2.length M3 (D + 1) (fun _ => .nils) (fun _ => []) := ⟨by rw [← hM3]; simp, by omega, fun p _ => .inl ⟨rfl, rfl⟩⟩
  obtain ⟨ixy3, ldy3⟩ := ixf M3 hg3 y hyn
  rw [hD] at ldy3
  have hFR4 := hFR3.grow ((Grow.refl M3).app (g := [Blk.cells true [[V.int .i64 (y : Int)]]]))
  obtain ⟨st4, hFR5⟩ := hFR4.put (q := D) (by omega) (r := .slice M3.length 0 1 1 true 1) (l' := [y]) (.inr ⟨M3.length, true, [[V.int .i64 (y : Int)]], by omega, rfl, by simp, rfl⟩)
  have ixD := hFR4.ix (p := D) (by omega)
  have hg5 : Grow M2 ((M3 ++ [Blk.cells true [[V.int .i64 (y : Int)]]]).set M2.length (.cells true (vF (D + 1) (upd (fun _ => V.nils) D (.slice M3.length 0 1 1 true 1))))) := hg3.app.set (Nat.le_refl _) _
  obtain ⟨ixy5, ldy5⟩ := ixf _ hg5 y hyn
  rw [hD] at ldy5
  simp (maxDischargeDepth := 30) only [aft_mk, ixy, ldy, hneg', wD, rm, rz, vF_nils, hM3, ldy3, ixD, st4, ldy5, wD', Int.toNat_natCast, or_self, amL, args0, Nat.reduceEqDiff, reduceCtorEq, ↓reduceIte, Nat.reduceAdd, resultsA, results1, Int.reduceNeg, splice, Nat.reduceLeDiff, part, fillA, fillE, Nat.reduceLT]
  generalize (M3 ++ [Blk.cells true [[V.int .i64 (y : Int)]]]).set M2.length (.cells true (vF (D + 1) (upd (fun _ => V.nils) D (.slice M3.length 0 1 1 true 1)))) = M5 at *
  have hfy : ∀ p, far p = (D : Int) → OnW (toN N) far y p → p = y := fun p h1 h2 => by
    rcases (h2.far_le (by omega)).2 with e | e
    · exact e
    · omega
  let I := fun (j : Nat) (fr : Frame) (M : Mem) => ∃ (tv : Nat → V) (ls : Nat → List Nat), j ≤ D ∧ fr 1 = .int .i64 (y : Nat) ∧ fr 2 = .ptr m.length 0 0 ∧ fr 6 = fv ∧ fr 7 = .slice M2.length 0 (D + 1) (D + 1) true 1 ∧ fr 8 = .int .i64 ((j : Int) - 1) ∧ Grow M2 M ∧ FR (M2.length + 1) M2.length M (D + 1) tv ls ∧ (∀ i, i < j → ls i = []) ∧ ∀ i, j ≤ i → i ≤ D → RowAt (toN N) far y i (ls i)
  refine W_loop I ?_ D ⟨_, _, Nat.le_refl _, by simp (maxDischargeDepth := 30) only [amL, args0, Nat.reduceEqDiff, reduceCtorEq, ↓reduceIte, Nat.reduceAdd, resultsA, results1, Int.reduceNeg, splice, Nat.reduceLeDiff, part, fillA, fillE, Nat.reduceLT], by simp (maxDischargeDepth := 30) only [amL, args0, Nat.reduceEqDiff, reduceCtorEq, ↓reduceIte, Nat.reduceAdd, resultsA, results1, Int.reduceNeg, splice, Nat.reduceLeDiff, part, fillA, fillE, Nat.reduceLT], by simp (maxDischargeDepth := 30) only [amL, args0, Nat.reduceEqDiff, reduceCtorEq, ↓reduceIte, Nat.reduceAdd, resultsA, results1, Int.reduceNeg, splice, Nat.reduceLeDiff, part, fillA, fillE, Nat.reduceLT], by simp (maxDischargeDepth := 30) only [amL, args0, Nat.reduceEqDiff, reduceCtorEq, ↓reduceIte, Nat.reduceAdd, resultsA, results1, Int.reduceNeg, splice, Nat.reduceLeDiff, part, fillA, fillE, Nat.reduceLT], by simp (maxDischargeDepth := 30) only [amL, args0, Nat.reduceEqDiff, reduceCtorEq, ↓reduceIte, Nat.reduceAdd, resultsA, results1, Int.reduceNeg, splice, Nat.reduceLeDiff, part, fillA, fillE, Nat.reduceLT], hg5, hFR5, fun i hi => upd_ne (by omega), fun i h3 h4 => ?_⟩
  · rintro j fr M ⟨tv, ls, hjD, f1, f2, f6, f7, f8, hg, hFR, hlo, hhi⟩
    unfold ref31_Way_l0
    by_cases hj : j = 0
    · subst hj
      have c0 : ¬ (0 : Int) ≤ ((0 : Nat) : Int) - 1 := by omega
      obtain ⟨w0, hw0s, hw0o⟩ := OnW.root hfar D y .here hD
      have hr0 := hhi 0 (by omega) (by omega)
      have hne0 : ls 0 ≠ [] := fun e => by have := (hr0.2 w0).2 ⟨hfar.zero hw0s, hw0o⟩; rw [e] at this; cases this
      obtain ⟨a, rest, hl0⟩ : ∃ a rest, ls 0 = a :: rest := by
        cases h : ls 0 with
        | nil => exact absurd h hne0
        | cons a rest => exact ⟨a, rest, rfl⟩
      have ha0 : a ∈ ls 0 := by rw [hl0]; simp
      have hlst : Lst a (fun p => p ∈ rootsN R ∧ OnW (toN N) far y p) := by
        obtain ⟨h5, h6⟩ := (hr0.2 a).1 ha0
        refine ⟨⟨hfar.isSrc h5, h6⟩, fun z hz => ?_⟩
        have := (hr0.2 z).2 ⟨hfar.zero hz.1, hz.2⟩
        rw [hl0] at this
        rcases List.mem_cons.1 this with e | e
        · omega
        · have h7 := hr0.1
          rw [hl0, List.pairwise_cons] at h7
          have := h7.1 z e; omega
      have ix0 := hFR.ix (p := 0) (by omega)
      have ld0 := hFR.ld (p := 0) (by omega)
      have hs0 := (hFR.g 0 (by omega)).sl
      have ixa := hs0.index (ki := .i64) (n := (0 : Int)) (by omega) (by rw [hl0]; simp)
      have lda := fun o k' => hs0.load (o := o) (k := k') (nats_get (show (ls 0)[0]? = some a by rw [hl0]; rfl))
      have z0 : (0 : Int).toNat = 0 := rfl
      rw [z0] at ixa
      have z1 : ((0 : Nat) : Int) = 0 := rfl
      rw [z1] at ix0
      simp (maxDischargeDepth := 30) only [f1, f2, f6, f7, f8, c0, ix0, ld0, ixa, lda, amL, args0, Nat.reduceEqDiff, reduceCtorEq, ↓reduceIte, Nat.reduceAdd, resultsA, results1, Int.reduceNeg, splice, Nat.reduceLeDiff, part, fillA, fillE, Nat.reduceLT]
      have hgo0 : GS M.length (M ++ [Blk.cells true [[V.int .i64 (a : Int)]]]) (.slice M.length 0 1 1 true 1) 1 (nats [a]) := .inr ⟨M.length, true, [[V.int .i64 (a : Int)]], Nat.le_refl _, rfl, by simp, rfl⟩
      have hmT : M[m.length]? = some (.cells true [[nv, rv]]) := (hg2.trans hg).get hT1
      let J := fun (i : Nat) (fr : Frame) (M' : Mem) => ∃ (k : Nat) (W0 : List Nat) (b : Nat) (ov : V), i = D + 1 - k ∧ k ≤ D + 1 ∧ fr 2 = .ptr m.length 0 0 ∧ fr 7 = .slice M2.length 0 (D + 1) (D + 1) true 1 ∧ fr 12 = ov ∧ fr 13 = .int .i64 (k : Nat) ∧ Grow M M' ∧ GS M.length M' ov 1 (nats (W0 ++ [b])) ∧ W0.length + 1 = k ∧ WayPre (toN N) (rootsN R) far y (W0 ++ [b])
      refine W_loop J ?_ D ⟨1, [], a, _, by omega, by omega, by simp (maxDischargeDepth := 30) only [f2, amL, args0, Nat.reduceEqDiff, reduceCtorEq, ↓reduceIte, Nat.reduceAdd, resultsA, results1, Int.reduceNeg, splice, Nat.reduceLeDiff, part, fillA, fillE, Nat.reduceLT], by simp (maxDischargeDepth := 30) only [f7, amL, args0, Nat.reduceEqDiff, reduceCtorEq, ↓reduceIte, Nat.reduceAdd, resultsA, results1, Int.reduceNeg, splice, Nat.reduceLeDiff, part, fillA, fillE, Nat.reduceLT], by simp (maxDischargeDepth := 30) only [amL, args0, Nat.reduceEqDiff, reduceCtorEq, ↓reduceIte, Nat.reduceAdd, resultsA, results1, Int.reduceNeg, splice, Nat.reduceLeDiff, part, fillA, fillE, Nat.reduceLT], by simp (maxDischargeDepth := 30) only [amL, args0, Nat.reduceEqDiff, reduceCtorEq, ↓reduceIte, Nat.reduceAdd, resultsA, results1, Int.reduceNeg, splice, Nat.reduceLeDiff, part, fillA, fillE, Nat.reduceLT]; rfl, (Grow.refl _).app, hgo0, rfl, ⟨fun z hz => by cases hz; exact hlst, fun k z w hz hw => by cases k <;> simp at hw⟩⟩
      rintro i fr M6 ⟨k, W0, b, ov, rfl, hk, g2, g7, g12, g13, hg6, hov, hW, hpre⟩
      have hFR6 := hFR.grow hg6
      have hlen1 : IntKind.i64.wrap ((k : Int) + 1) = ((k + 1 : Nat) : Int) := by rw [wrap_i64] <;> omega
      have hovl := hov.sl.cell
      unfold ref31_Way_l3
      by_cases hkD : k ≤ D
      · have ck : (k : Int) < ((D + 1 : Nat) : Int) := by omega
        have ixk := hFR6.ix (p := k) (by omega)
        have ldk := hFR6.ld (p := k) (by omega)
        have hrk := hhi k (by omega) (by omega)
        have hsk := (hFR6.g k (by omega)).sl
        have hskl := hsk.len
        simp only [List.length_map] at hskl
        have hlk : (ls k).length ≤ N.length := sorted_len hrk.1 fun p hp => (hfar.1 p (by have := ((hrk.2 p).1 hp).1; omega)).2
        obtain ⟨hbo, hbf⟩ := hpre.get hfar W0.length b (by simp)
        have hbN : b < N.length := (hfar.1 b (by omega)).2
        obtain ⟨nd, hx'⟩ : ∃ nd, N[b]? = some nd := ⟨_, List.getElem?_eq_getElem hbN⟩
        obtain ⟨tb, he, ht⟩ := hnd b nd hx'
        rw [hto b nd hx', ← nats_ints] at ht
        have hgm6 := (hgm2.trans hg).trans hg6
        have hn6 := hne.grow hgm6
        have ixn := hn6.index (ki := .i64) (n := b) (by omega) (by omega)
        have ldn := fun o j => hn6.load (o := o) (k := j) he
        have ixo := hov.sl.index (ki := .i64) (n := (W0.length : Int)) (by omega) (by simp; omega)
        have ldo := fun o j => hov.sl.load (o := o) (k := j) (nats_get (show (W0 ++ [b])[W0.length]? = some b by simp))
        have l6 := fun j k => load_at0 (k := k) (j := j) (hg6.get hmT)
        have wk : IntKind.i64.wrap ((k : Int) - 1) = (W0.length : Int) := by rw [wrap_i64] <;> omega
        have htN : (toN N b).length ≤ N.length := sorted_len (hTs b) fun q hq => hlt b q hq
        simp only [Int.toNat_natCast] at ixn ixo
        simp (maxDischargeDepth := 30) only [g2, g7, g12, g13, ck, ixk, ldk, hskl, amL, args0, Nat.reduceEqDiff, reduceCtorEq, ↓reduceIte, Nat.reduceAdd, resultsA, results1, Int.reduceNeg, splice, Nat.reduceLeDiff, part, fillA, fillE, Nat.reduceLT]
        refine W_range (α := Int) (ls k).length [2, 7, 12, 13, 14, 117] (fun nx => [(2, .ptr m.length 0 0), (7, .slice M2.length 0 (D + 1) (D + 1) true 1), (12, ov), (13, .int .i64 (k : Nat)), (14, .int .i64 nx), (117, tv k)])
          (fun i nx M' => M' = M6 ∧ ((nx = -1 ∧ ∀ q, q ∈ (ls k).take i → q ∉ toN N b) ∨ ∃ q : Nat, nx = q ∧ q ∈ ls k ∧ q ∈ toN N b ∧ ∀ q', q' ∈ ls k → q' ∈ toN N b → q ≤ q')) (-1) rfl (fun _ => rfl) rfl (by omega) (by simp (maxDischargeDepth := 30) only [amL, args0, Nat.reduceEqDiff, reduceCtorEq, ↓reduceIte, Nat.reduceAdd, resultsA, results1, Int.reduceNeg, splice, Nat.reduceLeDiff, part, fillA, fillE, Nat.reduceLT]) (by simp (maxDischargeDepth := 30) only [amL, args0, Nat.reduceEqDiff, reduceCtorEq, ↓reduceIte, Nat.reduceAdd, resultsA, results1, Int.reduceNeg, splice, Nat.reduceLeDiff, part, fillA, fillE, Nat.reduceLT]) (by simp (maxDischargeDepth := 30) only [g2, g7, g12, g13, amL, args0, Nat.reduceEqDiff, reduceCtorEq, ↓reduceIte, Nat.reduceAdd, resultsA, results1, Int.reduceNeg, splice, Nat.reduceLeDiff, part, fillA, fillE, Nat.reduceLT])
          ⟨rfl, .inl ⟨rfl, by simp⟩⟩ ?_ ?_
        · rintro i nx fr M7 hi ⟨k119, k118, k2, k7, k12, k13, k14, k117, -⟩ ⟨hMM, hnx⟩
          subst hMM
          obtain ⟨q, hq⟩ : ∃ q, (ls k)[i]? = some q := ⟨_, List.getElem?_eq_getElem hi⟩
          have ixq := hsk.index (ki := .i64) (n := i) (by omega) (by simp; omega)
          have ldq := fun o j => hsk.load (o := o) (k := j) (nats_get hq)
          simp only [Int.toNat_natCast] at ixq
          rcases hnx with ⟨rfl, hno⟩ | ⟨q0, rfl, hq0⟩
          · have cm : (-1 : Int) < 0 := by decide
            simp (maxDischargeDepth := 30) only [k119, k118, k2, k7, k12, k13, k14, k117, ixq, ldq, cm, r0, List.append_nil, decide_true, l6, wk, ixo, ldo, ixn, ldn, amL, args0, Nat.reduceEqDiff, reduceCtorEq, ↓reduceIte, Nat.reduceAdd, resultsA, results1, Int.reduceNeg, splice, Nat.reduceLeDiff, part, fillA, fillE, Nat.reduceLT]
            refine (rhas_spec q (ht.grow hgm6) (by omega)).mono ?_
            rintro _ M8 ⟨rfl, rfl⟩
            by_cases c1 : q ∈ toN N b
            · simp (maxDischargeDepth := 30) only [aft_mk, k119, k118, k2, k7, k12, k13, k14, k117, c1, decide_true, amL, args0, Nat.reduceEqDiff, reduceCtorEq, ↓reduceIte, Nat.reduceAdd, resultsA, results1, Int.reduceNeg, splice, Nat.reduceLeDiff, part, fillA, fillE, Nat.reduceLT]
              refine ⟨(q : Nat), by simp (maxDischargeDepth := 30) only [k119, k118, k2, k7, k12, k13, k117, amL, args0, Nat.reduceEqDiff, reduceCtorEq, ↓reduceIte, Nat.reduceAdd, resultsA, results1, Int.reduceNeg, splice, Nat.reduceLeDiff, part, fillA, fillE, Nat.reduceLT], rfl, .inr ⟨q, rfl, List.mem_of_getElem? hq, c1, fun q' h3 h4 => ?_⟩⟩
              obtain ⟨i', hi'⟩ := List.getElem?_of_mem h3
              by_cases e : i' < i
              · exact absurd h4 (hno q' (List.mem_iff_getElem?.2 ⟨i', by rw [List.getElem?_take, if_pos e]; exact hi'⟩))
              · by_cases e2 : i' = i
                · subst e2; rw [hq] at hi'; cases hi'; exact Nat.le_refl _
                · have h8 := List.pairwise_iff_getElem.1 hrk.1 i i' hi (List.getElem?_eq_some_iff.1 hi').1 (by omega)
                  rw [(List.getElem?_eq_some_iff.1 hq).2, (List.getElem?_eq_some_iff.1 hi').2] at h8
                  omega
            · simp (maxDischargeDepth := 30) only [aft_mk, k119, k118, k2, k7, k12, k13, k14, k117, c1, decide_false, amL, args0, Nat.reduceEqDiff, reduceCtorEq, ↓reduceIte, Nat.reduceAdd, resultsA, results1, Int.reduceNeg, splice, Nat.reduceLeDiff, part, fillA, fillE, Nat.reduceLT]
              refine ⟨-1, by simp (maxDischargeDepth := 30) only [k119, k118, k2, k7, k12, k13, k14, k117, amL, args0, Nat.reduceEqDiff, reduceCtorEq, ↓reduceIte, Nat.reduceAdd, resultsA, results1, Int.reduceNeg, splice, Nat.reduceLeDiff, part, fillA, fillE, Nat.reduceLT], rfl, .inl ⟨rfl, fun q' h3 => ?_⟩⟩
              rw [take_step hq, List.mem_append, List.mem_singleton] at h3
              rcases h3 with h3 | rfl
              · exact hno q' h3
              · exact c1
          · have cm : ¬ (q0 : Int) < 0 := by omega
            simp (maxDischargeDepth := 30) only [k119, k118, k2, k7, k12, k13, k14, k117, ixq, ldq, cm, r0, List.append_nil, decide_false, amL, args0, Nat.reduceEqDiff, reduceCtorEq, ↓reduceIte, Nat.reduceAdd, resultsA, results1, Int.reduceNeg, splice, Nat.reduceLeDiff, part, fillA, fillE, Nat.reduceLT]
            exact ⟨(q0 : Nat), by simp (maxDischargeDepth := 30) only [k119, k118, k2, k7, k12, k13, k14, k117, amL, args0, Nat.reduceEqDiff, reduceCtorEq, ↓reduceIte, Nat.reduceAdd, resultsA, results1, Int.reduceNeg, splice, Nat.reduceLeDiff, part, fillA, fillE, Nat.reduceLT], rfl, .inr ⟨q0, rfl, hq0⟩⟩
        · rintro nx fr M7 ⟨k2, k7, k12, k13, k14, k117, -⟩ ⟨hMM, hnx⟩
          subst hMM
          have hby : b ≠ y := fun e => by rw [e] at hbf; omega
          obtain ⟨q, hq1, hq2, hq3⟩ := hbo.up hby
          have hqk : q ∈ ls k := (hrk.2 q).2 ⟨by omega, hq2⟩
          rcases hnx with ⟨rfl, hno⟩ | ⟨q0, rfl, hq0, hq0t, hq0l⟩
          · rw [List.take_length] at hno
            exact absurd hq1 (hno q hqk)
          obtain ⟨w', M8, p1, p2, p3, p4, p5⟩ := (hov.app (g := [Blk.cells true [[V.int .i64 (q0 : Int)]]])).push (T := M7.length) (own := true) (x := [V.int .i64 (q0 : Int)]) (zero := [.int .i64 0]) (bytes := 8) rfl (by simp) (by simp [roomy]; omega) (by have := hg6.len; simp; omega)
          simp (maxDischargeDepth := 30) only [k2, k7, k12, k13, k14, k117, amL, args0, Nat.reduceEqDiff, reduceCtorEq, ↓reduceIte, Nat.reduceAdd, resultsA, results1, Int.reduceNeg, splice, Nat.reduceLeDiff, part, fillA, fillE, Nat.reduceLT]
          refine ⟨_, _, p1, ?_⟩
          have hjm : D + 1 - (k + 1) < D + 1 - k := by omega
          refine ⟨_, hjm, k + 1, W0 ++ [b], q0, w', rfl, by omega, by simp (maxDischargeDepth := 30) only [k2, amL, args0, Nat.reduceEqDiff, reduceCtorEq, ↓reduceIte, Nat.reduceAdd, resultsA, results1, Int.reduceNeg, splice, Nat.reduceLeDiff, part, fillA, fillE, Nat.reduceLT], by simp (maxDischargeDepth := 30) only [k7, amL, args0, Nat.reduceEqDiff, reduceCtorEq, ↓reduceIte, Nat.reduceAdd, resultsA, results1, Int.reduceNeg, splice, Nat.reduceLeDiff, part, fillA, fillE, Nat.reduceLT], by simp (maxDischargeDepth := 30) only [amL, args0, Nat.reduceEqDiff, reduceCtorEq, ↓reduceIte, Nat.reduceAdd, resultsA, results1, Int.reduceNeg, splice, Nat.reduceLeDiff, part, fillA, fillE, Nat.reduceLT], by simp (maxDischargeDepth := 30) only [k13, hlen1, amL, args0, Nat.reduceEqDiff, reduceCtorEq, ↓reduceIte, Nat.reduceAdd, resultsA, results1, Int.reduceNeg, splice, Nat.reduceLeDiff, part, fillA, fillE, Nat.reduceLT], grow_keep fun c z hc hz => p3 c z (fun e => by have := (hov.blk e).1; omega) (getElem?_grow (hg6.get hz)), ?_, by simp; omega, hpre.push ?_⟩
          · have : nats (W0 ++ [b] ++ [q0]) = nats (W0 ++ [b]) ++ [[V.int .i64 (q0 : Int)]] := by simp
            rw [this]; exact p2
          refine ⟨⟨hq0t, ((hrk.2 q0).1 hq0).2, by have := ((hrk.2 q0).1 hq0).1; omega⟩, fun z hz => hq0l z ((hrk.2 z).2 ⟨by have := hz.2.2; omega, hz.2.1⟩) hz.1⟩
      · have ck : ¬ (k : Int) < ((D + 1 : Nat) : Int) := by omega
        simp (maxDischargeDepth := 30) only [g2, g7, g12, g13, ck, amL, args0, Nat.reduceEqDiff, reduceCtorEq, ↓reduceIte, Nat.reduceAdd, resultsA, results1, Int.reduceNeg, splice, Nat.reduceLeDiff, part, fillA, fillE, Nat.reduceLT]
        refine ⟨(hgm2.trans hg).trans hg6, far, hfar, .inr ⟨by omega, ov, W0 ++ [b], rfl, hov.sl, hpre, ?_⟩⟩
        rw [hD]; simp; omega
    · obtain ⟨k, rfl⟩ : ∃ k, j = k + 1 := ⟨j - 1, by omega⟩
      have c0 : (0 : Int) ≤ ((k + 1 : Nat) : Int) - 1 := by omega
      have hk1 : ((k + 1 : Nat) : Int) - 1 = (k : Int) := by omega
      rw [hk1] at f8 c0
      have hmT : M[m.length]? = some (.cells true [[nv, rv]]) := (hg2.trans hg).get hT1
      have l1 := fun j k => load_at0 (k := k) (j := j) hmT
      simp (maxDischargeDepth := 30) only [f1, f2, f6, f7, f8, c0, l1, hnl, amL, args0, Nat.reduceEqDiff, reduceCtorEq, ↓reduceIte, Nat.reduceAdd, resultsA, results1, Int.reduceNeg, splice, Nat.reduceLeDiff, part, fillA, fillE, Nat.reduceLT]
      refine W_range (α := (Nat → V) × (Nat → List Nat)) N.length [1, 2, 6, 7, 8] (fun _ => [(1, .int .i64 (y : Nat)), (2, .ptr m.length 0 0), (6, fv), (7, .slice M2.length 0 (D + 1) (D + 1) true 1), (8, .int .i64 (k : Int))])
        (fun i x M' => Grow M2 M' ∧ FR (M2.length + 1) M2.length M' (D + 1) x.1 x.2 ∧ (∀ j, j ≠ k → x.2 j = ls j) ∧ (x.2 k).Pairwise (· < ·) ∧ ∀ p, p ∈ x.2 k ↔ p < i ∧ far p = (k : Int) ∧ ∃ q, q ∈ ls (k + 1) ∧ q ∈ toN N p) (tv, ls) rfl (fun _ => rfl) rfl (by omega) (by simp (maxDischargeDepth := 30) only [amL, args0, Nat.reduceEqDiff, reduceCtorEq, ↓reduceIte, Nat.reduceAdd, resultsA, results1, Int.reduceNeg, splice, Nat.reduceLeDiff, part, fillA, fillE, Nat.reduceLT]) (by simp (maxDischargeDepth := 30) only [amL, args0, Nat.reduceEqDiff, reduceCtorEq, ↓reduceIte, Nat.reduceAdd, resultsA, results1, Int.reduceNeg, splice, Nat.reduceLeDiff, part, fillA, fillE, Nat.reduceLT]) (by simp (maxDischargeDepth := 30) only [f1, f2, f6, f7, f8, amL, args0, Nat.reduceEqDiff, reduceCtorEq, ↓reduceIte, Nat.reduceAdd, resultsA, results1, Int.reduceNeg, splice, Nat.reduceLeDiff, part, fillA, fillE, Nat.reduceLT])
        ⟨hg, hFR, fun _ _ => rfl, by show (ls k).Pairwise _; rw [hlo k (by omega)]; exact .nil, fun p => by show p ∈ ls k ↔ _; rw [hlo k (by omega)]; simp⟩ ?_ ?_
      · rintro i ⟨tv1, ls1⟩ fr M6 hi ⟨g62, g61, g1, g2, g6, g7, g8, -⟩ ⟨hg6, hFR6, hoth, hsk, hmk⟩
        dsimp only at hFR6 hoth hsk hmk
        have wk : IntKind.i64.wrap ((k : Int) + 1) = ((k + 1 : Nat) : Int) := by rw [wrap_i64] <;> omega
        have ixk := hFR6.ix (p := k + 1) (by omega)
        have ldk := hFR6.ld (p := k + 1) (by omega)
        have hsn := (hFR6.g (k + 1) (by omega)).sl
        rw [hoth (k + 1) (by omega)] at hsn
        have hsnl := hsn.len
        simp only [List.length_map] at hsnl
        have hlk : (ls (k + 1)).length ≤ N.length := sorted_len (hhi (k + 1) (by omega) hjD).1 fun p hp => (hfar.1 p (by have := (((hhi (k + 1) (by omega) hjD).2 p).1 hp).1; omega)).2
        obtain ⟨nd, hx'⟩ : ∃ nd, N[i]? = some nd := ⟨_, List.getElem?_eq_getElem hi⟩
        obtain ⟨tb, he, ht⟩ := hnd i nd hx'
        rw [hto i nd hx', ← nats_ints] at ht
        have htN : (toN N i).length ≤ N.length := sorted_len (hTs i) fun q hq => hlt i q hq
        simp (maxDischargeDepth := 30) only [g62, g61, g1, g2, g6, g7, g8, wk, ixk, ldk, hsnl, amL, args0, Nat.reduceEqDiff, reduceCtorEq, ↓reduceIte, Nat.reduceAdd, resultsA, results1, Int.reduceNeg, splice, Nat.reduceLeDiff, part, fillA, fillE, Nat.reduceLT]
        refine W_range (α := (Nat → V) × (Nat → List Nat)) (ls (k + 1)).length [1, 2, 6, 7, 8, 9, 61, 62, 69] (fun _ => [(1, .int .i64 (y : Nat)), (2, .ptr m.length 0 0), (6, fv), (7, .slice M2.length 0 (D + 1) (D + 1) true 1), (8, .int .i64 (k : Int)), (9, .int .i64 (i : Nat)), (61, .int .i64 (N.length : Nat)), (62, .int .i64 (i : Nat)), (69, tv1 (k + 1))])
          (fun j x M' => Grow M2 M' ∧ FR (M2.length + 1) M2.length M' (D + 1) x.1 x.2 ∧ (∀ j, j ≠ k → x.2 j = ls j ∧ x.1 j = tv1 j) ∧ (x.2 k).Pairwise (· < ·) ∧ ∀ p, p ∈ x.2 k ↔ (p < i ∧ far p = (k : Int) ∧ ∃ q, q ∈ ls (k + 1) ∧ q ∈ toN N p) ∨ (p = i ∧ far p = (k : Int) ∧ ∃ q, q ∈ (ls (k + 1)).take j ∧ q ∈ toN N p)) (tv1, ls1) rfl (fun _ => rfl) rfl (by omega) (by simp (maxDischargeDepth := 30) only [amL, args0, Nat.reduceEqDiff, reduceCtorEq, ↓reduceIte, Nat.reduceAdd, resultsA, results1, Int.reduceNeg, splice, Nat.reduceLeDiff, part, fillA, fillE, Nat.reduceLT]) (by simp (maxDischargeDepth := 30) only [amL, args0, Nat.reduceEqDiff, reduceCtorEq, ↓reduceIte, Nat.reduceAdd, resultsA, results1, Int.reduceNeg, splice, Nat.reduceLeDiff, part, fillA, fillE, Nat.reduceLT]) (by simp (maxDischargeDepth := 30) only [g62, g61, g1, g2, g6, g7, g8, amL, args0, Nat.reduceEqDiff, reduceCtorEq, ↓reduceIte, Nat.reduceAdd, resultsA, results1, Int.reduceNeg, splice, Nat.reduceLeDiff, part, fillA, fillE, Nat.reduceLT])
          ⟨hg6, hFR6, fun j hj => ⟨hoth j hj, rfl⟩, hsk, fun p => by show p ∈ ls1 k ↔ _; rw [hmk]; simp⟩ ?_ ?_
        · rintro j ⟨tv2, ls2⟩ fr M7 hj2 ⟨k71, k70, k1, k2, k6, k7, k8, k9, k61, k62, k69, -⟩ ⟨hg7, hFR7, hoth7, hsk7, hmk7⟩
          dsimp only at hFR7 hoth7 hsk7 hmk7
          obtain ⟨q, hq⟩ : ∃ q, (ls (k + 1))[j]? = some q := ⟨_, List.getElem?_eq_getElem hj2⟩
          have hsn7 := (hFR7.g (k + 1) (by omega)).sl
          rw [(hoth7 (k + 1) (by omega)).1, (hoth7 (k + 1) (by omega)).2] at hsn7
          have ixq := hsn7.index (ki := .i64) (n := j) (by omega) (by simp; omega)
          have ldq := fun o j => hsn7.load (o := o) (k := j) (nats_get hq)
          simp only [Int.toNat_natCast] at ixq
          obtain ⟨ixi, ldi⟩ := ixf M7 hg7 i hi
          have l7 := fun j k => load_at0 (k := k) (j := j) ((hg2.trans hg7).get hT1)
          have hn7 := hne.grow (hgm2.trans hg7)
          have ixn := hn7.index (ki := .i64) (n := i) (by omega) (by omega)
          have ldn := fun o j => hn7.load (o := o) (k := j) he
          simp only [Int.toNat_natCast] at ixn
          by_cases hfi : far i = (k : Int)
          · have hfi' : (far i = (k : Int)) = True := eq_true hfi
            simp (maxDischargeDepth := 30) only [k71, k70, k1, k2, k6, k7, k8, k9, k61, k62, k69, ixq, ldq, ixi, ldi, hfi', decide_true, l7, ixn, ldn, amL, args0, Nat.reduceEqDiff, reduceCtorEq, ↓reduceIte, Nat.reduceAdd, resultsA, results1, Int.reduceNeg, splice, Nat.reduceLeDiff, part, fillA, fillE, Nat.reduceLT]
            refine (rhas_spec q (ht.grow (hgm2.trans hg7)) (by omega)).mono ?_
            rintro _ M8 ⟨rfl, rfl⟩
            by_cases c1 : q ∈ toN N i
            · have ixk7 := hFR7.ix (p := k) (by omega)
              have ldk7 := hFR7.ld (p := k) (by omega)
              have hl2 : (ls2 k).length ≤ N.length := sorted_len hsk7 fun p hp => by
                rcases (hmk7 p).1 hp with h | h
                · omega
                · omega
              simp (maxDischargeDepth := 30) only [aft_mk, k71, k70, k1, k2, k6, k7, k8, k9, k61, k62, k69, c1, decide_true, ixk7, ldk7, amL, args0, Nat.reduceEqDiff, reduceCtorEq, ↓reduceIte, Nat.reduceAdd, resultsA, results1, Int.reduceNeg, splice, Nat.reduceLeDiff, part, fillA, fillE, Nat.reduceLT]
              refine (put_spec (l := ls2 k) i (hFR7.g k (by omega)) (by omega) (by have := (List.getElem?_eq_some_iff.1 hFR7.fb).1; omega)).mono ?_
              rintro r M9 ⟨hg9, hr9⟩
              obtain ⟨st9, hFR9⟩ := (hFR7.grow hg9).put (q := k) (by omega) hr9
              simp (maxDischargeDepth := 30) only [aft_mk, k71, k70, k1, k2, k6, k7, k8, k9, k61, k62, k69, ixk7, st9, amL, args0, Nat.reduceEqDiff, reduceCtorEq, ↓reduceIte, Nat.reduceAdd, resultsA, results1, Int.reduceNeg, splice, Nat.reduceLeDiff, part, fillA, fillE, Nat.reduceLT]
              refine ⟨(upd tv2 k r, upd ls2 k (putN (ls2 k) i)), by simp (maxDischargeDepth := 30) only [k71, k70, k1, k2, k6, k7, k8, k9, k61, k62, k69, amL, args0, Nat.reduceEqDiff, reduceCtorEq, ↓reduceIte, Nat.reduceAdd, resultsA, results1, Int.reduceNeg, splice, Nat.reduceLeDiff, part, fillA, fillE, Nat.reduceLT], (hg7.trans hg9).set (Nat.le_refl _) _, hFR9, fun j' hj' => ⟨by show upd ls2 k _ j' = _; rw [upd_ne hj']; exact (hoth7 j' hj').1, by show upd tv2 k _ j' = _; rw [upd_ne hj']; exact (hoth7 j' hj').2⟩, by show (upd ls2 k _ k).Pairwise _; rw [upd_self]; exact putN_sorted hsk7, fun p => ?_⟩
              show p ∈ upd ls2 k _ k ↔ _
              rw [upd_self, mem_putN, hmk7, take_step hq]
              constructor
              · rintro (rfl | h | ⟨h3, h4, q', h5, h6⟩)
                · exact .inr ⟨rfl, hfi, q, by simp, c1⟩
                · exact .inl h
                · exact .inr ⟨h3, h4, q', by simp [h5], h6⟩
              · rintro (h | ⟨h3, h4, _⟩)
                · exact .inr (.inl h)
                · exact .inl h3
            · simp (maxDischargeDepth := 30) only [aft_mk, k71, k70, k1, k2, k6, k7, k8, k9, k61, k62, k69, c1, decide_false, amL, args0, Nat.reduceEqDiff, reduceCtorEq, ↓reduceIte, Nat.reduceAdd, resultsA, results1, Int.reduceNeg, splice, Nat.reduceLeDiff, part, fillA, fillE, Nat.reduceLT]
              refine ⟨(tv2, ls2), by simp (maxDischargeDepth := 30) only [k71, k70, k1, k2, k6, k7, k8, k9, k61, k62, k69, amL, args0, Nat.reduceEqDiff, reduceCtorEq, ↓reduceIte, Nat.reduceAdd, resultsA, results1, Int.reduceNeg, splice, Nat.reduceLeDiff, part, fillA, fillE, Nat.reduceLT], hg7, hFR7, hoth7, hsk7, fun p => ?_⟩
              show p ∈ ls2 k ↔ _
              rw [hmk7, take_step hq]
              refine or_congr_right (and_congr_right fun e => and_congr_right fun _ => ⟨fun ⟨q', h5, h6⟩ => ⟨q', by simp [h5], h6⟩, fun ⟨q', h5, h6⟩ => ?_⟩)
              rw [List.mem_append, List.mem_singleton] at h5
              rcases h5 with h5 | rfl
              · exact ⟨q', h5, h6⟩
              · rw [e] at h6; exact absurd h6 c1
          · simp (maxDischargeDepth := 30) only [k71, k70, k1, k2, k6, k7, k8, k9, k61, k62, k69, ixq, ldq, ixi, ldi, hfi, decide_false, amL, args0, Nat.reduceEqDiff, reduceCtorEq, ↓reduceIte, Nat.reduceAdd, resultsA, results1, Int.reduceNeg, splice, Nat.reduceLeDiff, part, fillA, fillE, Nat.reduceLT]
            refine ⟨(tv2, ls2), by simp (maxDischargeDepth := 30) only [k71, k70, k1, k2, k6, k7, k8, k9, k61, k62, k69, amL, args0, Nat.reduceEqDiff, reduceCtorEq, ↓reduceIte, Nat.reduceAdd, resultsA, results1, Int.reduceNeg, splice, Nat.reduceLeDiff, part, fillA, fillE, Nat.reduceLT], hg7, hFR7, hoth7, hsk7, fun p => ?_⟩
            show p ∈ ls2 k ↔ _
            rw [hmk7]
            refine or_congr_right ⟨fun ⟨h3, h4, _⟩ => absurd (h3 ▸ h4) hfi, fun ⟨h3, h4, _⟩ => absurd (h3 ▸ h4) hfi⟩
        · rintro ⟨tv2, ls2⟩ fr M7 ⟨k1, k2, k6, k7, k8, k9, k61, k62, k69, -⟩ ⟨hg7, hFR7, hoth7, hsk7, hmk7⟩
          dsimp only at hFR7 hoth7 hsk7 hmk7
          rw [List.take_length] at hmk7
          simp (maxDischargeDepth := 30) only [amL, args0, Nat.reduceEqDiff, reduceCtorEq, ↓reduceIte, Nat.reduceAdd, resultsA, results1, Int.reduceNeg, splice, Nat.reduceLeDiff, part, fillA, fillE, Nat.reduceLT]
          refine ⟨(tv2, ls2), by simp (maxDischargeDepth := 30) only [k1, k2, k6, k7, k8, k61, k62, amL, args0, Nat.reduceEqDiff, reduceCtorEq, ↓reduceIte, Nat.reduceAdd, resultsA, results1, Int.reduceNeg, splice, Nat.reduceLeDiff, part, fillA, fillE, Nat.reduceLT], hg7, hFR7, fun j hj => (hoth7 j hj).1, hsk7, fun p => ?_⟩
          show p ∈ ls2 k ↔ _
          rw [hmk7]
          constructor
          · rintro (⟨h3, h4⟩ | ⟨h3, h4⟩)
            · exact ⟨by omega, h4⟩
            · exact ⟨by omega, h4⟩
          · rintro ⟨h3, h4⟩
            by_cases e : p < i
            · exact .inl ⟨e, h4⟩
            · exact .inr ⟨by omega, h4⟩
      · rintro ⟨tv1, ls1⟩ fr M6 ⟨g1, g2, g6, g7, g8, -⟩ ⟨hg6, hFR6, hoth, hsk, hmk⟩
        dsimp only at hFR6 hoth hsk hmk
        have wk : IntKind.i64.wrap ((k : Int) - 1) = (k : Int) - 1 := by rw [wrap_i64] <;> omega
        simp (maxDischargeDepth := 30) only [g1, g2, g6, g7, g8, wk, amL, args0, Nat.reduceEqDiff, reduceCtorEq, ↓reduceIte, Nat.reduceAdd, resultsA, results1, Int.reduceNeg, splice, Nat.reduceLeDiff, part, fillA, fillE, Nat.reduceLT]
        refine ⟨k, by omega, tv1, ls1, by omega, by simp (maxDischargeDepth := 30) only [g1, amL, args0, Nat.reduceEqDiff, reduceCtorEq, ↓reduceIte, Nat.reduceAdd, resultsA, results1, Int.reduceNeg, splice, Nat.reduceLeDiff, part, fillA, fillE, Nat.reduceLT], by simp (maxDischargeDepth := 30) only [g2, amL, args0, Nat.reduceEqDiff, reduceCtorEq, ↓reduceIte, Nat.reduceAdd, resultsA, results1, Int.reduceNeg, splice, Nat.reduceLeDiff, part, fillA, fillE, Nat.reduceLT], by simp (maxDischargeDepth := 30) only [g6, amL, args0, Nat.reduceEqDiff, reduceCtorEq, ↓reduceIte, Nat.reduceAdd, resultsA, results1, Int.reduceNeg, splice, Nat.reduceLeDiff, part, fillA, fillE, Nat.reduceLT], by simp (maxDischargeDepth := 30) only [g7, amL, args0, Nat.reduceEqDiff, reduceCtorEq, ↓reduceIte, Nat.reduceAdd, resultsA, results1, Int.reduceNeg, splice, Nat.reduceLeDiff, part, fillA, fillE, Nat.reduceLT], by simp (maxDischargeDepth := 30) only [amL, args0, Nat.reduceEqDiff, reduceCtorEq, ↓reduceIte, Nat.reduceAdd, resultsA, results1, Int.reduceNeg, splice, Nat.reduceLeDiff, part, fillA, fillE, Nat.reduceLT], hg6, hFR6, fun i hi => by rw [hoth i (by omega)]; exact hlo i (by omega), fun i h3 h4 => ?_⟩
        by_cases e : i = k
        · subst e
          refine ⟨hsk, fun p => ?_⟩
          rw [hmk]
          constructor
          · rintro ⟨_, h5, q, h6, h7⟩
            obtain ⟨h8, h9⟩ := ((hhi (i + 1) (by omega) (by omega)).2 q).1 h6
            exact ⟨h5, .step h9 h7 (by omega) (by omega)⟩
          · rintro ⟨h5, h6⟩
            have hpy : p ≠ y := fun e => by rw [e] at h5; omega
            obtain ⟨q, h7, h8, h9⟩ := h6.up hpy
            exact ⟨(hfar.1 p (by omega)).2, h5, q, ((hhi (i + 1) (by omega) (by omega)).2 q).2 ⟨by omega, h8⟩, h7⟩
        · rw [hoth i e]; exact hhi i (by omega) h4
  · have e : i = D := by omega
    subst e
    rw [upd_self]
    refine ⟨List.pairwise_singleton _ _, fun p => ?_⟩
    rw [List.mem_singleton]
    constructor
    · rintro rfl; exact ⟨hD, .here⟩
    · rintro ⟨h5, h6⟩; exact hfy p h5 h6
end Go.AM.G
