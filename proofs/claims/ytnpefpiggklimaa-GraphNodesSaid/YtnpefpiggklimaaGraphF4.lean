/- The document's answer: Parts. -/
import Derived.Test.YtnpefpiggklimaaGraphF1
set_option linter.unusedVariables false
set_option linter.unusedSimpArgs false
set_option maxRecDepth 100000
namespace Go.AM.G
open Go Go.AM
theorem grow_keep {m M : Mem} (h : ∀ c y, c < m.length → m[c]? = some y → M[c]? = some y) : Grow m M := by
  refine ⟨M.drop m.length, ?_⟩
  have : M.take m.length = m := by
    apply List.ext_getElem?
    intro c
    by_cases hc : c < m.length
    · rw [List.getElem?_take, if_pos hc]
      have h0 := List.getElem?_eq_getElem hc
      rw [h0]
      exact h c _ hc h0
    · rw [List.getElem?_eq_none (by simp; omega), List.getElem?_eq_none (by omega)]
  conv => lhs; rw [← List.take_append_drop m.length M, this]
theorem Sl.keepB {M M' : Mem} {v : V} {z : Nat} {els : List (List V)} (h : Sl M v z els) (hk : ∀ c y, blkOf v = some c → M[c]? = some y → M'[c]? = some y) : Sl M' v z els := by
  obtain ⟨h, hz⟩ := h
  refine ⟨?_, hz⟩
  cases v with
  | slice b i len cap ex z' =>
    simp only [elems] at h ⊢
    cases hb : M[b]? with
    | none => simp [hb] at h
    | some x => rw [hk b x rfl hb]; rw [hb] at h; exact h
  | _ => exact h
theorem Sl.blk {M : Mem} {v : V} {z : Nat} {els : List (List V)} (h : Sl M v z els) {c : Nat} (hc : blkOf v = some c) : c < M.length := by
  obtain ⟨h, _⟩ := h
  cases v with
  | slice b i len cap ex z' =>
    simp only [blkOf, Option.some.injEq] at hc
    subst hc
    simp only [elems] at h
    cases hb : M[b]? with
    | none => simp [hb] at h
    | some x => exact (List.getElem?_eq_some_iff.1 hb).1
  | _ => simp [blkOf] at hc
/-- rows of rows. -/
def RW (B : Nat) (M : Mem) (u : V) (L : List (List Nat)) : Prop := ∃ tvs : List V, GS B M u 1 (tvs.map fun t => [t]) ∧ tvs.length = L.length ∧ ∀ (i : Nat) (t : V) (l : List Nat), tvs[i]? = some t → L[i]? = some l → Sl M t 1 (nats l) ∧ ∀ c, blkOf t = some c → blkOf u ≠ some c
theorem RW.nil {B : Nat} {M : Mem} : RW B M .nils [] := ⟨[], .inl ⟨rfl, rfl⟩, rfl, fun i t l h => by simp at h⟩
theorem RW.grow {B : Nat} {M M' : Mem} {u : V} {L : List (List Nat)} (h : RW B M u L) (hg : Grow M M') : RW B M' u L := by
  obtain ⟨tvs, h1, h2, h3⟩ := h
  exact ⟨tvs, h1.keep fun c y _ hy => hg.get hy, h2, fun i t l ht hl => ⟨(h3 i t l ht hl).1.grow hg, (h3 i t l ht hl).2⟩⟩
theorem RW.len {B : Nat} {M : Mem} {u : V} {L : List (List Nat)} (h : RW B M u L) : asLen u = some (.int .i64 L.length) := by
  obtain ⟨tvs, h1, h2, h3⟩ := h
  rw [h1.sl.len]; simp [h2]
theorem RW.get {B : Nat} {M : Mem} {u : V} {L : List (List Nat)} (h : RW B M u L) {i : Nat} {l : List Nat} (hi : L[i]? = some l) : ∃ t, asIndex 1 u (.int .i64 (i : Nat)) = some (atp u i 0) ∧ loadV M none (atp u i 0) = some t ∧ Sl M t 1 (nats l) := by
  obtain ⟨tvs, h1, h2, h3⟩ := h
  have hlt := (List.getElem?_eq_some_iff.1 hi).1
  obtain ⟨t, ht⟩ : ∃ t, tvs[i]? = some t := ⟨_, List.getElem?_eq_getElem (by omega)⟩
  have ix := h1.sl.index (ki := .i64) (n := i) (by omega) (by simp; omega)
  simp only [Int.toNat_natCast] at ix
  have ld := h1.sl.load (o := 0) (k := none) (i := i) (el := [t]) (by simp [ht])
  exact ⟨t, ix, ld, (h3 i t l ht hi).1⟩
theorem RW.push {B : Nat} {M : Mem} {u t : V} {L : List (List Nat)} {l : List Nat} (h : RW B M u L) (ht : Sl M t 1 (nats l)) (hb : ∀ c, blkOf t = some c → blkOf u ≠ some c) (hB : B ≤ M.length) (hr : roomy (L.length + 1) 24 = true) :
    ∃ u' M', appendV (M ++ [Blk.cells true [[t]]]) [.nils] 24 u (.slice M.length 0 1 1 true 1) = some (u', M') ∧ RW B M' u' (L ++ [l]) ∧ (∀ c y, c < B → M[c]? = some y → M'[c]? = some y) ∧ M.length ≤ M'.length := by
  obtain ⟨tvs, h1, h2, h3⟩ := h
  obtain ⟨u', M', a1, a2, a3, a4, a5⟩ := (h1.app (g := [Blk.cells true [[t]]])).push (T := M.length) (bytes := 24) (own := true) (x := [t]) (zero := [.nils]) rfl (by simp) (by simpa [h2] using hr) (by simp; omega)
  have keep : ∀ c y, blkOf u ≠ some c → M[c]? = some y → M'[c]? = some y := fun c y hc hy => a3 c y hc (getElem?_grow hy)
  have hne : ∀ c, c < M.length → blkOf u ≠ some c → blkOf u' ≠ some c := fun c hc hu => by
    rcases a4 with e | e
    · rw [e]; exact hu
    · rw [e]; simp; omega
  refine ⟨u', M', a1, ⟨tvs ++ [t], by simpa using a2, by simp [h2], fun i t' l' hi hl => ?_⟩, fun c y hc hy => keep c y (fun e => by have := (h1.blk e).1; omega) hy, by simp at a5; omega⟩
  by_cases hil : i < tvs.length
  · rw [List.getElem?_append_left hil] at hi
    rw [List.getElem?_append_left (by omega)] at hl
    obtain ⟨b1, b2⟩ := h3 i t' l' hi hl
    exact ⟨Sl.keepB b1 fun c y hc hy => keep c y (b2 c hc) hy, fun c hc => hne c (Sl.blk b1 hc) (b2 c hc)⟩
  · have hil' : i = tvs.length := by have := (List.getElem?_eq_some_iff.1 hi).1; simp at this; omega
    subst hil'
    rw [List.getElem?_concat_length] at hi
    rw [h2, List.getElem?_concat_length] at hl
    cases hi; cases hl
    exact ⟨Sl.keepB ht fun c y hc hy => keep c y (hb c hc) hy, fun c hc => hne c (Sl.blk ht hc) (hb c hc)⟩
theorem rhas_spec {m : Mem} {v : V} {l : List Nat} (x : Nat) (hv : SlR m v 1 (nats l)) (hl : l.length < 2 ^ 60) : C S n_ref31_has [v, .int .i64 (x : Nat)] m (fun r m' => r = .bool (decide (x ∈ l)) ∧ m' = m) := by
  refine (has_spec (l := ints' l) (x : Nat) (by rw [← nats_ints]; exact hv) (by simpa using hl)).mono ?_
  rintro r m' ⟨rfl, rfl⟩
  exact ⟨by congr 1; exact decide_eq_decide.2 ⟨fun h => by obtain ⟨a, h1, h2⟩ := List.mem_map.1 h; have e : a = x := (by omega); exact e ▸ h1, fun h => List.mem_map.2 ⟨x, h, rfl⟩⟩, rfl⟩
theorem natF_succ {n : Nat} {f : Nat → Nat} : natF (n + 1) f = natF n f ++ [[.int .i64 (f n : Nat)]] := by simp [natF, List.range_succ]
theorem refParts_spec {m : Mem} {nv rv : V} {N : List NodeA} {R : List Int} {parts : Nat → Nat} (hG : Gr m nv rv N R) (hf : Fits N R) (ha : ∀ x, x ∈ N → 0 ≤ x.addr) (hparts : validG N R = true → ∀ p, p < N.length → IsPart (toN N) p (parts p)) :
    C S n_ref31_Parts [.agg [nv, rv]] m (fun r m' => Grow m m' ∧ ((validG N R = false ∧ r = .tup [.nils, .int .i64 2]) ∨ (validG N R = true ∧ ∃ pv, r = .tup [pv, .int .i64 0] ∧ Sl m' pv 1 (natF N.length parts)))) := by
  refine C_body rfl rfl rfl ?_
  unfold ref31_Parts
  obtain ⟨hc1, hc2⟩ := hG.cells
  simp (maxDischargeDepth := 30) only [hc1, hc2, amL, args0, Nat.reduceEqDiff, reduceCtorEq, ↓reduceIte, Nat.reduceAdd, resultsA, results1, Int.reduceNeg, splice, Nat.reduceLeDiff, part, fillA, fillE, Nat.reduceLT]
  refine (refCheck_spec (hG.grow (Grow.refl _).app) hf ha).mono ?_
  rintro _ M1 ⟨rfl, hg1⟩
  have hgm1 : Grow m M1 := (Grow.refl m).app.trans hg1
  have hT1 : M1[m.length]? = some (.cells true [[nv, rv]]) := hg1.get (by simp)
  cases hval : validG N R with
  | false =>
    have c2 : ¬ (2 : Int) = 0 := by decide
    simp (maxDischargeDepth := 30) only [aft_mk, c2, Bool.false_eq_true, amL, args0, Nat.reduceEqDiff, reduceCtorEq, ↓reduceIte, Nat.reduceAdd, resultsA, results1, Int.reduceNeg, splice, Nat.reduceLeDiff, part, fillA, fillE, Nat.reduceLT]
    exact ⟨hgm1, .inl trivial⟩
  | true =>
  obtain ⟨hn, hto, hlt, hR, hRl, _⟩ := valid_to hval
  obtain ⟨_, els, hne, hel, hnd⟩ := id hG
  have c00 : ¬ ¬ (0 : Int) = 0 := by omega
  have ldT1 := fun j k => load_at0 (k := k) (j := j) hT1
  have hnl := hne.len
  rw [hel] at hnl
  simp (maxDischargeDepth := 30) only [aft_mk, c00, ldT1, hnl, amL, args0, Nat.reduceEqDiff, reduceCtorEq, ↓reduceIte, Nat.reduceAdd, resultsA, results1, Int.reduceNeg, splice, Nat.reduceLeDiff, part, fillA, fillE, Nat.reduceLT]
  refine W_range (α := V × List (List Nat)) N.length [1, 4] (fun x => [(1, .ptr m.length 0 0), (4, x.1)])
    (fun k x M => Grow M1 M ∧ RW M1.length M x.1 x.2 ∧ x.2.length = k ∧ ∀ i l, x.2[i]? = some l → l.length ≤ 4096 ∧ ∀ p, p ∈ l ↔ Rch (toN N) i p) (.nils, []) rfl (fun _ => rfl) rfl (by omega) (by simp (maxDischargeDepth := 30) only [amL, args0, Nat.reduceEqDiff, reduceCtorEq, ↓reduceIte, Nat.reduceAdd, resultsA, results1, Int.reduceNeg, splice, Nat.reduceLeDiff, part, fillA, fillE, Nat.reduceLT]) (by simp (maxDischargeDepth := 30) only [amL, args0, Nat.reduceEqDiff, reduceCtorEq, ↓reduceIte, Nat.reduceAdd, resultsA, results1, Int.reduceNeg, splice, Nat.reduceLeDiff, part, fillA, fillE, Nat.reduceLT]) (by simp (maxDischargeDepth := 30) only [amL, args0, Nat.reduceEqDiff, reduceCtorEq, ↓reduceIte, Nat.reduceAdd, resultsA, results1, Int.reduceNeg, splice, Nat.reduceLeDiff, part, fillA, fillE, Nat.reduceLT])
    ⟨Grow.refl _, RW.nil, rfl, by simp⟩ ?_ ?_
  · rintro k ⟨u, L⟩ fr M hk ⟨f16, f15, f1, f4, -⟩ ⟨hg, hrw, hLk, hL⟩
    dsimp only at hrw hLk hL
    have hgm := hgm1.trans hg
    have ldT := fun j k => load_at0 (k := k) (j := j) (hg.get hT1)
    simp (maxDischargeDepth := 30) only [f16, f15, f1, f4, ldT, amL, args0, Nat.reduceEqDiff, reduceCtorEq, ↓reduceIte, Nat.reduceAdd, resultsA, results1, Int.reduceNeg, splice, Nat.reduceLeDiff, part, fillA, fillE, Nat.reduceLT]
    have hs0 : Sl (M ++ [Blk.cells true [[V.int .i64 (k : Int)]]]) (.slice M.length 0 1 1 true 1) 1 (nats [k]) := Sl.mk (els := [[V.int .i64 (k : Int)]]) (own := true) (by simp)
    refine (from_spec (but := -1) (src := [k]) (hG.grow hgm.app) hf hval (.inl hs0) (by simpa using hk) (by simp)).mono ?_
    rintro v M2 ⟨hg2, l, hgs, hsrt, hmem⟩
    have hvc := hgs.sl.cell
    have hmem' : ∀ p, p ∈ l ↔ Rch (toN N) k p := fun p => by rw [hmem, pth_rch]; simp
    have hll : l.length ≤ 4096 := Nat.le_trans (sorted_len hsrt fun p hp => by obtain ⟨j, h⟩ := (hmem p).1 hp; exact pth_lt (by simpa using hk) hlt h) hn
    have hgM2 : Grow M M2 := (Grow.refl M).app.trans hg2
    have hblk : ∀ c, blkOf v = some c → blkOf u ≠ some c := fun c hc hu => by
      have h1 := (hgs.blk hc).1
      obtain ⟨tvs, h2, _⟩ := hrw
      have h3 := (h2.blk hu).2
      simp at h1; omega
    obtain ⟨u', M', a1, a2, a3, a4⟩ := (hrw.grow hgM2).push hgs.sl hblk (by have := (hg.trans hgM2).len; omega) (by simp [roomy]; omega)
    simp (maxDischargeDepth := 30) only [aft_mk, f16, f15, f1, f4, hvc, cells_cell hvc, amL, args0, Nat.reduceEqDiff, reduceCtorEq, ↓reduceIte, Nat.reduceAdd, resultsA, results1, Int.reduceNeg, splice, Nat.reduceLeDiff, part, fillA, fillE, Nat.reduceLT]
    refine ⟨_, _, a1, ?_⟩
    have hgM' : Grow M1 M' := grow_keep fun c y hc hy => a3 c y hc ((hg.trans hgM2).get hy)
    refine ⟨(u', L ++ [l]), by simp (maxDischargeDepth := 30) only [f16, f15, f1, f4, amL, args0, Nat.reduceEqDiff, reduceCtorEq, ↓reduceIte, Nat.reduceAdd, resultsA, results1, Int.reduceNeg, splice, Nat.reduceLeDiff, part, fillA, fillE, Nat.reduceLT], hgM', a2, by simp [hLk], fun i l' hi => ?_⟩
    by_cases hik : i < L.length
    · rw [List.getElem?_append_left hik] at hi
      exact hL i l' hi
    · have : i = L.length := by have := (List.getElem?_eq_some_iff.1 hi).1; simp at this; omega
      subst this
      rw [List.getElem?_concat_length] at hi
      cases hi
      exact ⟨hll, by rw [hLk]; exact hmem'⟩
  · rintro ⟨u, L⟩ fr M ⟨f1, f4, -⟩ ⟨hg, hrw, hLk, hL⟩
    dsimp only at hrw hLk hL
    have hgm := hgm1.trans hg
    have ldT := fun j k => load_at0 (k := k) (j := j) (hg.get hT1)
    simp (maxDischargeDepth := 30) only [f1, f4, ldT, hnl, amL, args0, Nat.reduceEqDiff, reduceCtorEq, ↓reduceIte, Nat.reduceAdd, resultsA, results1, Int.reduceNeg, splice, Nat.reduceLeDiff, part, fillA, fillE, Nat.reduceLT]
    refine W_range (α := V) N.length [1, 4, 6] (fun x => [(1, .ptr m.length 0 0), (4, u), (6, x)])
      (fun k x M' => Grow M M' ∧ GS M.length M' x 1 (natF k parts)) .nils rfl (fun _ => rfl) rfl (by omega) (by simp (maxDischargeDepth := 30) only [amL, args0, Nat.reduceEqDiff, reduceCtorEq, ↓reduceIte, Nat.reduceAdd, resultsA, results1, Int.reduceNeg, splice, Nat.reduceLeDiff, part, fillA, fillE, Nat.reduceLT]) (by simp (maxDischargeDepth := 30) only [amL, args0, Nat.reduceEqDiff, reduceCtorEq, ↓reduceIte, Nat.reduceAdd, resultsA, results1, Int.reduceNeg, splice, Nat.reduceLeDiff, part, fillA, fillE, Nat.reduceLT]) (by simp (maxDischargeDepth := 30) only [f1, f4, amL, args0, Nat.reduceEqDiff, reduceCtorEq, ↓reduceIte, Nat.reduceAdd, resultsA, results1, Int.reduceNeg, splice, Nat.reduceLeDiff, part, fillA, fillE, Nat.reduceLT])
      ⟨Grow.refl _, .inl ⟨rfl, rfl⟩⟩ ?_ ?_
    · rintro i w fr M2 hi ⟨g30, g29, g1, g4, g6, -⟩ ⟨hg2, hgs⟩
      obtain ⟨li, hli⟩ : ∃ l, L[i]? = some l := ⟨_, List.getElem?_eq_getElem (by omega)⟩
      have hrw2 := hrw.grow hg2
      obtain ⟨ti, ixi, ldi, hti⟩ := hrw2.get hli
      obtain ⟨hlil, hmi⟩ := hL i li hli
      have hpart := hparts hval i hi
      simp (maxDischargeDepth := 30) only [g30, g29, g1, g4, g6, amL, args0, Nat.reduceEqDiff, reduceCtorEq, ↓reduceIte, Nat.reduceAdd, resultsA, results1, Int.reduceNeg, splice, Nat.reduceLeDiff, part, fillA, fillE, Nat.reduceLT]
      let I := fun (j : Nat) (fr : Frame) (M : Mem) => ∃ (k : Nat) (least : Nat), k ≤ i ∧ j = i - k ∧ fr 1 = .ptr m.length 0 0 ∧ fr 4 = u ∧ fr 6 = w ∧ fr 7 = .int .i64 (i : Nat) ∧ fr 8 = .int .i64 (least : Nat) ∧ fr 9 = .int .i64 (k : Nat) ∧ fr 29 = .int .i64 (N.length : Nat) ∧ fr 30 = .int .i64 (i : Nat) ∧ M = M2 ∧ (least = i ∨ least < k) ∧ (Rch (toN N) i least ∧ Rch (toN N) least i) ∧ ∀ q, q < k → Rch (toN N) i q → Rch (toN N) q i → least ≤ q
      refine W_loop I ?_ i ⟨0, i, by omega, rfl, by simp (maxDischargeDepth := 30) only [g1, amL, args0, Nat.reduceEqDiff, reduceCtorEq, ↓reduceIte, Nat.reduceAdd, resultsA, results1, Int.reduceNeg, splice, Nat.reduceLeDiff, part, fillA, fillE, Nat.reduceLT], by simp (maxDischargeDepth := 30) only [g4, amL, args0, Nat.reduceEqDiff, reduceCtorEq, ↓reduceIte, Nat.reduceAdd, resultsA, results1, Int.reduceNeg, splice, Nat.reduceLeDiff, part, fillA, fillE, Nat.reduceLT], by simp (maxDischargeDepth := 30) only [g6, amL, args0, Nat.reduceEqDiff, reduceCtorEq, ↓reduceIte, Nat.reduceAdd, resultsA, results1, Int.reduceNeg, splice, Nat.reduceLeDiff, part, fillA, fillE, Nat.reduceLT], by simp (maxDischargeDepth := 30) only [g30, amL, args0, Nat.reduceEqDiff, reduceCtorEq, ↓reduceIte, Nat.reduceAdd, resultsA, results1, Int.reduceNeg, splice, Nat.reduceLeDiff, part, fillA, fillE, Nat.reduceLT], by simp (maxDischargeDepth := 30) only [g30, amL, args0, Nat.reduceEqDiff, reduceCtorEq, ↓reduceIte, Nat.reduceAdd, resultsA, results1, Int.reduceNeg, splice, Nat.reduceLeDiff, part, fillA, fillE, Nat.reduceLT], by simp (maxDischargeDepth := 30) only [amL, args0, Nat.reduceEqDiff, reduceCtorEq, ↓reduceIte, Nat.reduceAdd, resultsA, results1, Int.reduceNeg, splice, Nat.reduceLeDiff, part, fillA, fillE, Nat.reduceLT]; rfl, by simp (maxDischargeDepth := 30) only [g29, amL, args0, Nat.reduceEqDiff, reduceCtorEq, ↓reduceIte, Nat.reduceAdd, resultsA, results1, Int.reduceNeg, splice, Nat.reduceLeDiff, part, fillA, fillE, Nat.reduceLT], by simp (maxDischargeDepth := 30) only [g30, amL, args0, Nat.reduceEqDiff, reduceCtorEq, ↓reduceIte, Nat.reduceAdd, resultsA, results1, Int.reduceNeg, splice, Nat.reduceLeDiff, part, fillA, fillE, Nat.reduceLT], rfl, .inl rfl, ⟨.refl _, .refl _⟩, fun q hq => absurd hq (Nat.not_lt_zero _)⟩
      rintro j fr M3 ⟨k, least, hki, rfl, k1, k4, k6, k7, k8, k9, k29, k30, rfl, hle, hmut, hmin⟩
      unfold ref31_Parts_l2
      by_cases hkl : k < i
      · have hkl' : (k : Int) < i := by omega
        obtain ⟨lk, hlk⟩ : ∃ l, L[k]? = some l := ⟨_, List.getElem?_eq_getElem (by omega)⟩
        obtain ⟨tk, ixk, ldk, htk⟩ := hrw2.get hlk
        obtain ⟨hlkl, hmk⟩ := hL k lk hlk
        have wk : IntKind.i64.wrap ((k : Int) + 1) = ((k + 1 : Nat) : Int) := by rw [wrap_i64] <;> omega
        have next : ∀ (fr' : Frame) (l' : Nat), fr' 1 = .ptr m.length 0 0 → fr' 4 = u → fr' 6 = w → fr' 7 = .int .i64 (i : Nat) → fr' 8 = .int .i64 (l' : Nat) → fr' 9 = .int .i64 (k + 1 : Nat) → fr' 29 = .int .i64 (N.length : Nat) → fr' 30 = .int .i64 (i : Nat) → (l' = i ∨ l' < k + 1) → (Rch (toN N) i l' ∧ Rch (toN N) l' i) → (∀ q, q < k + 1 → Rch (toN N) i q → Rch (toN N) q i → l' ≤ q) → ∃ j, j < i - k ∧ I j fr' M3 :=
          fun fr' l' h1 h2 h3 h4 h5 h6 h7 h8 h9 h10 h11 => ⟨i - (k + 1), by omega, k + 1, l', by omega, rfl, h1, h2, h3, h4, h5, h6, h7, h8, rfl, h9, h10, h11⟩
        by_cases hli' : least = i
        · have e1 : ((least : Int) = (i : Int)) = True := eq_true (by omega)
          simp (maxDischargeDepth := 30) only [k1, k4, k6, k7, k8, k9, k29, k30, hkl', e1, decide_true, ixi, ldi, amL, args0, Nat.reduceEqDiff, reduceCtorEq, ↓reduceIte, Nat.reduceAdd, resultsA, results1, Int.reduceNeg, splice, Nat.reduceLeDiff, part, fillA, fillE, Nat.reduceLT]
          refine (rhas_spec k (.inl hti) (by omega)).mono ?_
          rintro _ _ ⟨rfl, rfl⟩
          by_cases c1 : k ∈ li
          · simp (maxDischargeDepth := 30) only [aft_mk, k1, k4, k6, k7, k8, k9, k29, k30, hkl', e1, c1, decide_true, ixk, ldk, amL, args0, Nat.reduceEqDiff, reduceCtorEq, ↓reduceIte, Nat.reduceAdd, resultsA, results1, Int.reduceNeg, splice, Nat.reduceLeDiff, part, fillA, fillE, Nat.reduceLT]
            refine (rhas_spec i (.inl htk) (by omega)).mono ?_
            rintro _ _ ⟨rfl, rfl⟩
            by_cases c2 : i ∈ lk
            · simp (maxDischargeDepth := 30) only [aft_mk, k1, k4, k6, k7, k8, k9, k29, k30, c2, decide_true, amL, args0, Nat.reduceEqDiff, reduceCtorEq, ↓reduceIte, Nat.reduceAdd, resultsA, results1, Int.reduceNeg, splice, Nat.reduceLeDiff, part, fillA, fillE, Nat.reduceLT]
              unfold ref31_Parts_j0
              simp (maxDischargeDepth := 30) only [k1, k4, k6, k7, k8, k9, k29, k30, wk, amL, args0, Nat.reduceEqDiff, reduceCtorEq, ↓reduceIte, Nat.reduceAdd, resultsA, results1, Int.reduceNeg, splice, Nat.reduceLeDiff, part, fillA, fillE, Nat.reduceLT]
              refine next _ k (by simp (maxDischargeDepth := 30) only [k1, amL, args0, Nat.reduceEqDiff, reduceCtorEq, ↓reduceIte, Nat.reduceAdd, resultsA, results1, Int.reduceNeg, splice, Nat.reduceLeDiff, part, fillA, fillE, Nat.reduceLT]) (by simp (maxDischargeDepth := 30) only [k4, amL, args0, Nat.reduceEqDiff, reduceCtorEq, ↓reduceIte, Nat.reduceAdd, resultsA, results1, Int.reduceNeg, splice, Nat.reduceLeDiff, part, fillA, fillE, Nat.reduceLT]) (by simp (maxDischargeDepth := 30) only [k6, amL, args0, Nat.reduceEqDiff, reduceCtorEq, ↓reduceIte, Nat.reduceAdd, resultsA, results1, Int.reduceNeg, splice, Nat.reduceLeDiff, part, fillA, fillE, Nat.reduceLT]) (by simp (maxDischargeDepth := 30) only [k7, amL, args0, Nat.reduceEqDiff, reduceCtorEq, ↓reduceIte, Nat.reduceAdd, resultsA, results1, Int.reduceNeg, splice, Nat.reduceLeDiff, part, fillA, fillE, Nat.reduceLT]) (by simp (maxDischargeDepth := 30) only [k9, amL, args0, Nat.reduceEqDiff, reduceCtorEq, ↓reduceIte, Nat.reduceAdd, resultsA, results1, Int.reduceNeg, splice, Nat.reduceLeDiff, part, fillA, fillE, Nat.reduceLT]) (by simp (maxDischargeDepth := 30) only [amL, args0, Nat.reduceEqDiff, reduceCtorEq, ↓reduceIte, Nat.reduceAdd, resultsA, results1, Int.reduceNeg, splice, Nat.reduceLeDiff, part, fillA, fillE, Nat.reduceLT]) (by simp (maxDischargeDepth := 30) only [k29, amL, args0, Nat.reduceEqDiff, reduceCtorEq, ↓reduceIte, Nat.reduceAdd, resultsA, results1, Int.reduceNeg, splice, Nat.reduceLeDiff, part, fillA, fillE, Nat.reduceLT]) (by simp (maxDischargeDepth := 30) only [k30, amL, args0, Nat.reduceEqDiff, reduceCtorEq, ↓reduceIte, Nat.reduceAdd, resultsA, results1, Int.reduceNeg, splice, Nat.reduceLeDiff, part, fillA, fillE, Nat.reduceLT]) (.inr (by omega)) ⟨(hmi k).1 c1, (hmk i).1 c2⟩ fun q hq h1 h2 => ?_
              by_cases e : q < k
              · have := hmin q e h1 h2; omega
              · omega
            · simp (maxDischargeDepth := 30) only [aft_mk, k1, k4, k6, k7, k8, k9, k29, k30, c2, decide_false, amL, args0, Nat.reduceEqDiff, reduceCtorEq, ↓reduceIte, Nat.reduceAdd, resultsA, results1, Int.reduceNeg, splice, Nat.reduceLeDiff, part, fillA, fillE, Nat.reduceLT]
              unfold ref31_Parts_j0
              simp (maxDischargeDepth := 30) only [k1, k4, k6, k7, k8, k9, k29, k30, wk, amL, args0, Nat.reduceEqDiff, reduceCtorEq, ↓reduceIte, Nat.reduceAdd, resultsA, results1, Int.reduceNeg, splice, Nat.reduceLeDiff, part, fillA, fillE, Nat.reduceLT]
              refine next _ least (by simp (maxDischargeDepth := 30) only [k1, amL, args0, Nat.reduceEqDiff, reduceCtorEq, ↓reduceIte, Nat.reduceAdd, resultsA, results1, Int.reduceNeg, splice, Nat.reduceLeDiff, part, fillA, fillE, Nat.reduceLT]) (by simp (maxDischargeDepth := 30) only [k4, amL, args0, Nat.reduceEqDiff, reduceCtorEq, ↓reduceIte, Nat.reduceAdd, resultsA, results1, Int.reduceNeg, splice, Nat.reduceLeDiff, part, fillA, fillE, Nat.reduceLT]) (by simp (maxDischargeDepth := 30) only [k6, amL, args0, Nat.reduceEqDiff, reduceCtorEq, ↓reduceIte, Nat.reduceAdd, resultsA, results1, Int.reduceNeg, splice, Nat.reduceLeDiff, part, fillA, fillE, Nat.reduceLT]) (by simp (maxDischargeDepth := 30) only [k7, amL, args0, Nat.reduceEqDiff, reduceCtorEq, ↓reduceIte, Nat.reduceAdd, resultsA, results1, Int.reduceNeg, splice, Nat.reduceLeDiff, part, fillA, fillE, Nat.reduceLT]) (by simp (maxDischargeDepth := 30) only [k8, amL, args0, Nat.reduceEqDiff, reduceCtorEq, ↓reduceIte, Nat.reduceAdd, resultsA, results1, Int.reduceNeg, splice, Nat.reduceLeDiff, part, fillA, fillE, Nat.reduceLT]) (by simp (maxDischargeDepth := 30) only [amL, args0, Nat.reduceEqDiff, reduceCtorEq, ↓reduceIte, Nat.reduceAdd, resultsA, results1, Int.reduceNeg, splice, Nat.reduceLeDiff, part, fillA, fillE, Nat.reduceLT]) (by simp (maxDischargeDepth := 30) only [k29, amL, args0, Nat.reduceEqDiff, reduceCtorEq, ↓reduceIte, Nat.reduceAdd, resultsA, results1, Int.reduceNeg, splice, Nat.reduceLeDiff, part, fillA, fillE, Nat.reduceLT]) (by simp (maxDischargeDepth := 30) only [k30, amL, args0, Nat.reduceEqDiff, reduceCtorEq, ↓reduceIte, Nat.reduceAdd, resultsA, results1, Int.reduceNeg, splice, Nat.reduceLeDiff, part, fillA, fillE, Nat.reduceLT]) (.inl hli') hmut fun q hq h1 h2 => ?_
              by_cases e : q < k
              · exact hmin q e h1 h2
              · have : q = k := by omega
                subst this
                exact absurd ((hmk i).2 h2) c2
          · simp (maxDischargeDepth := 30) only [aft_mk, k1, k4, k6, k7, k8, k9, k29, k30, hkl', e1, c1, decide_false, amL, args0, Nat.reduceEqDiff, reduceCtorEq, ↓reduceIte, Nat.reduceAdd, resultsA, results1, Int.reduceNeg, splice, Nat.reduceLeDiff, part, fillA, fillE, Nat.reduceLT]
            unfold ref31_Parts_j0
            simp (maxDischargeDepth := 30) only [k1, k4, k6, k7, k8, k9, k29, k30, wk, amL, args0, Nat.reduceEqDiff, reduceCtorEq, ↓reduceIte, Nat.reduceAdd, resultsA, results1, Int.reduceNeg, splice, Nat.reduceLeDiff, part, fillA, fillE, Nat.reduceLT]
            refine next _ least (by simp (maxDischargeDepth := 30) only [k1, amL, args0, Nat.reduceEqDiff, reduceCtorEq, ↓reduceIte, Nat.reduceAdd, resultsA, results1, Int.reduceNeg, splice, Nat.reduceLeDiff, part, fillA, fillE, Nat.reduceLT]) (by simp (maxDischargeDepth := 30) only [k4, amL, args0, Nat.reduceEqDiff, reduceCtorEq, ↓reduceIte, Nat.reduceAdd, resultsA, results1, Int.reduceNeg, splice, Nat.reduceLeDiff, part, fillA, fillE, Nat.reduceLT]) (by simp (maxDischargeDepth := 30) only [k6, amL, args0, Nat.reduceEqDiff, reduceCtorEq, ↓reduceIte, Nat.reduceAdd, resultsA, results1, Int.reduceNeg, splice, Nat.reduceLeDiff, part, fillA, fillE, Nat.reduceLT]) (by simp (maxDischargeDepth := 30) only [k7, amL, args0, Nat.reduceEqDiff, reduceCtorEq, ↓reduceIte, Nat.reduceAdd, resultsA, results1, Int.reduceNeg, splice, Nat.reduceLeDiff, part, fillA, fillE, Nat.reduceLT]) (by simp (maxDischargeDepth := 30) only [k8, amL, args0, Nat.reduceEqDiff, reduceCtorEq, ↓reduceIte, Nat.reduceAdd, resultsA, results1, Int.reduceNeg, splice, Nat.reduceLeDiff, part, fillA, fillE, Nat.reduceLT]) (by simp (maxDischargeDepth := 30) only [amL, args0, Nat.reduceEqDiff, reduceCtorEq, ↓reduceIte, Nat.reduceAdd, resultsA, results1, Int.reduceNeg, splice, Nat.reduceLeDiff, part, fillA, fillE, Nat.reduceLT]) (by simp (maxDischargeDepth := 30) only [k29, amL, args0, Nat.reduceEqDiff, reduceCtorEq, ↓reduceIte, Nat.reduceAdd, resultsA, results1, Int.reduceNeg, splice, Nat.reduceLeDiff, part, fillA, fillE, Nat.reduceLT]) (by simp (maxDischargeDepth := 30) only [k30, amL, args0, Nat.reduceEqDiff, reduceCtorEq, ↓reduceIte, Nat.reduceAdd, resultsA, results1, Int.reduceNeg, splice, Nat.reduceLeDiff, part, fillA, fillE, Nat.reduceLT]) (.inl hli') hmut fun q hq h1 h2 => ?_
            by_cases e : q < k
            · exact hmin q e h1 h2
            · have : q = k := by omega
              subst this
              exact absurd ((hmi q).2 h1) c1
        · have e1 : ¬ ((least : Int) = (i : Int)) := by omega
          simp (maxDischargeDepth := 30) only [k1, k4, k6, k7, k8, k9, k29, k30, hkl', e1, decide_false, amL, args0, Nat.reduceEqDiff, reduceCtorEq, ↓reduceIte, Nat.reduceAdd, resultsA, results1, Int.reduceNeg, splice, Nat.reduceLeDiff, part, fillA, fillE, Nat.reduceLT]
          unfold ref31_Parts_j0
          simp (maxDischargeDepth := 30) only [k1, k4, k6, k7, k8, k9, k29, k30, wk, amL, args0, Nat.reduceEqDiff, reduceCtorEq, ↓reduceIte, Nat.reduceAdd, resultsA, results1, Int.reduceNeg, splice, Nat.reduceLeDiff, part, fillA, fillE, Nat.reduceLT]
          refine next _ least (by simp (maxDischargeDepth := 30) only [k1, amL, args0, Nat.reduceEqDiff, reduceCtorEq, ↓reduceIte, Nat.reduceAdd, resultsA, results1, Int.reduceNeg, splice, Nat.reduceLeDiff, part, fillA, fillE, Nat.reduceLT]) (by simp (maxDischargeDepth := 30) only [k4, amL, args0, Nat.reduceEqDiff, reduceCtorEq, ↓reduceIte, Nat.reduceAdd, resultsA, results1, Int.reduceNeg, splice, Nat.reduceLeDiff, part, fillA, fillE, Nat.reduceLT]) (by simp (maxDischargeDepth := 30) only [k6, amL, args0, Nat.reduceEqDiff, reduceCtorEq, ↓reduceIte, Nat.reduceAdd, resultsA, results1, Int.reduceNeg, splice, Nat.reduceLeDiff, part, fillA, fillE, Nat.reduceLT]) (by simp (maxDischargeDepth := 30) only [k7, amL, args0, Nat.reduceEqDiff, reduceCtorEq, ↓reduceIte, Nat.reduceAdd, resultsA, results1, Int.reduceNeg, splice, Nat.reduceLeDiff, part, fillA, fillE, Nat.reduceLT]) (by simp (maxDischargeDepth := 30) only [k8, amL, args0, Nat.reduceEqDiff, reduceCtorEq, ↓reduceIte, Nat.reduceAdd, resultsA, results1, Int.reduceNeg, splice, Nat.reduceLeDiff, part, fillA, fillE, Nat.reduceLT]) (by simp (maxDischargeDepth := 30) only [amL, args0, Nat.reduceEqDiff, reduceCtorEq, ↓reduceIte, Nat.reduceAdd, resultsA, results1, Int.reduceNeg, splice, Nat.reduceLeDiff, part, fillA, fillE, Nat.reduceLT]) (by simp (maxDischargeDepth := 30) only [k29, amL, args0, Nat.reduceEqDiff, reduceCtorEq, ↓reduceIte, Nat.reduceAdd, resultsA, results1, Int.reduceNeg, splice, Nat.reduceLeDiff, part, fillA, fillE, Nat.reduceLT]) (by simp (maxDischargeDepth := 30) only [k30, amL, args0, Nat.reduceEqDiff, reduceCtorEq, ↓reduceIte, Nat.reduceAdd, resultsA, results1, Int.reduceNeg, splice, Nat.reduceLeDiff, part, fillA, fillE, Nat.reduceLT]) (by omega) hmut fun q hq h1 h2 => ?_
          by_cases e : q < k
          · exact hmin q e h1 h2
          · omega
      · have hkl' : ¬ (k : Int) < i := by omega
        have hleq : least = parts i := by
          refine Nat.le_antisymm ?_ (hpart.2 least hmut.1 hmut.2)
          by_cases e : parts i < k
          · exact hmin _ e hpart.1.1 hpart.1.2
          · have := hpart.2 least hmut.1 hmut.2
            omega
        subst hleq
        obtain ⟨w', M', a1, a2, a3, a4, a5⟩ := (hgs.app (g := [Blk.cells true [[V.int .i64 (parts i : Int)]]])).push (T := M3.length) (bytes := 8) (own := true) (x := [V.int .i64 (parts i : Int)]) (zero := [.int .i64 0]) rfl (by simp) (by rw [natF_len]; simp [roomy]; omega) (by have := hg2.len; simp; omega)
        simp (maxDischargeDepth := 30) only [k1, k4, k6, k7, k8, k9, k29, k30, hkl', amL, args0, Nat.reduceEqDiff, reduceCtorEq, ↓reduceIte, Nat.reduceAdd, resultsA, results1, Int.reduceNeg, splice, Nat.reduceLeDiff, part, fillA, fillE, Nat.reduceLT]
        refine ⟨_, _, a1, ?_⟩
        have hgM' : Grow M M' := grow_keep fun c y hc hy => a3 c y (fun e => by have := (hgs.blk e).1; omega) (getElem?_grow (hg2.get hy))
        exact ⟨w', by simp (maxDischargeDepth := 30) only [k1, k4, k29, k30, amL, args0, Nat.reduceEqDiff, reduceCtorEq, ↓reduceIte, Nat.reduceAdd, resultsA, results1, Int.reduceNeg, splice, Nat.reduceLeDiff, part, fillA, fillE, Nat.reduceLT], hgM', by rw [natF_succ]; exact a2⟩
    · rintro w fr M2 ⟨g1, g4, g6, -⟩ ⟨hg2, hgs⟩
      simp (maxDischargeDepth := 30) only [g1, g4, g6, amL, args0, Nat.reduceEqDiff, reduceCtorEq, ↓reduceIte, Nat.reduceAdd, resultsA, results1, Int.reduceNeg, splice, Nat.reduceLeDiff, part, fillA, fillE, Nat.reduceLT]
      exact ⟨hgm.trans hg2, .inr ⟨w, rfl, hgs.sl⟩⟩
end Go.AM.G
