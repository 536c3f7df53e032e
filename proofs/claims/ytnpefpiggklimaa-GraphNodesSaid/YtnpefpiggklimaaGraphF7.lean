/- The document's answer: Retained, Without. -/
import Derived.Test.YtnpefpiggklimaaGraphF5
import Derived.Test.YtnpefpiggklimaaGraphU
set_option linter.unusedVariables false
set_option linter.unusedSimpArgs false

set_option maxRecDepth 100000
namespace Go.AM.G
open Go Go.AM
theorem take_step {α : Type} {l : List α} {k : Nat} {x : α} (h : l[k]? = some x) : l.take (k + 1) = l.take k ++ [x] := by
  obtain ⟨h1, h2⟩ := List.getElem?_eq_some_iff.1 h
  rw [List.take_succ_eq_append_getElem h1, h2]
theorem refRetained_spec {m : Mem} {nv rv : V} {N : List NodeA} {R : List Int} (hG : Gr m nv rv N R) (hf : Fits N R) (ha : ∀ x, x ∈ N → 0 ≤ x.addr) (x : Int) (hl : Nat → Bool) (hhl : ∀ p, p < N.length → (hl p = true ↔ Live N R p ∧ ¬ ∃ j, Pth (toN N) (rootsN R) x j p)) :
    C S n_ref31_Retained [.agg [nv, rv], .int .i64 x] m (fun r m' => Grow m m' ∧ r = if validG N R = true then (if x < 0 ∨ (N.length : Int) ≤ x then .tup [.int .i64 0, .int .i64 1] else .tup [.int .i64 (sumW N hl N.length), .int .i64 0]) else .tup [.int .i64 0, .int .i64 2]) := by
  refine C_body rfl rfl rfl ?_
  unfold ref31_Retained
  obtain ⟨hc1, hc2⟩ := hG.cells
  obtain ⟨_, els, hne, hel, hnd⟩ := id hG
  have hnl := hne.len
  rw [hel] at hnl
  simp (maxDischargeDepth := 30) only [hc1, hc2, amL, args0, Nat.reduceEqDiff, reduceCtorEq, ↓reduceIte, Nat.reduceAdd, resultsA, results1, Int.reduceNeg, splice, Nat.reduceLeDiff, part, fillA, fillE, Nat.reduceLT]
  refine (refCheck_spec (hG.grow (Grow.refl _).app) hf ha).mono ?_
  rintro _ M1 ⟨rfl, hg1⟩
  have hgm1 : Grow m M1 := (Grow.refl m).app.trans hg1
  have hT1 : M1[m.length]? = some (.cells true [[nv, rv]]) := hg1.get (by simp)
  have ldT1 := fun j k => load_at0 (k := k) (j := j) hT1
  cases hval : validG N R with
  | false =>
    have c2 : ¬ (2 : Int) = 0 := by decide
    simp (maxDischargeDepth := 30) only [aft_mk, c2, Bool.false_eq_true, amL, args0, Nat.reduceEqDiff, reduceCtorEq, ↓reduceIte, Nat.reduceAdd, resultsA, results1, Int.reduceNeg, splice, Nat.reduceLeDiff, part, fillA, fillE, Nat.reduceLT]
    exact hgm1
  | true =>
  have c00 : ¬ ¬ (0 : Int) = 0 := by omega
  by_cases h1 : x < 0
  · have hx : x < 0 ∨ (N.length : Int) ≤ x := .inl h1
    simp (maxDischargeDepth := 30) only [aft_mk, c00, h1, hx, true_or, amL, args0, Nat.reduceEqDiff, reduceCtorEq, ↓reduceIte, Nat.reduceAdd, resultsA, results1, Int.reduceNeg, splice, Nat.reduceLeDiff, part, fillA, fillE, Nat.reduceLT]
    exact hgm1
  by_cases h2 : (N.length : Int) ≤ x
  · have hx : x < 0 ∨ (N.length : Int) ≤ x := .inr h2
    simp (maxDischargeDepth := 30) only [aft_mk, c00, h1, h2, hx, ldT1, hnl, or_true, amL, args0, Nat.reduceEqDiff, reduceCtorEq, ↓reduceIte, Nat.reduceAdd, resultsA, results1, Int.reduceNeg, splice, Nat.reduceLeDiff, part, fillA, fillE, Nat.reduceLT]
    exact hgm1
  have hx : ¬ (x < 0 ∨ (N.length : Int) ≤ x) := by omega
  obtain ⟨y, rfl⟩ : ∃ y : Nat, x = y := ⟨x.toNat, by omega⟩
  obtain ⟨hn, hto, hlt, hR, hRl, _⟩ := valid_to hval
  simp (maxDischargeDepth := 30) only [aft_mk, c00, h1, h2, hx, ldT1, hnl, hc1, hc2, amL, args0, Nat.reduceEqDiff, reduceCtorEq, ↓reduceIte, Nat.reduceAdd, resultsA, results1, Int.reduceNeg, splice, Nat.reduceLeDiff, part, fillA, fillE, Nat.reduceLT]
  refine (refheld_spec (hG.grow hgm1) hf hval y (by omega)).mono ?_
  rintro v M2 ⟨hg2, l, hgs, hsrt, hll, hmem⟩
  have hgm2 := hgm1.trans hg2
  have hvl := hgs.sl.len
  simp only [List.length_map] at hvl
  have hlive : ∀ p, Live N R p → p < N.length := fun p h => pth_lt hRl hlt (pth_rch.2 h).choose_spec
  have hsum : (l.map (wd N)).sum = sumW N hl N.length := sum_rising hsrt hl fun p => by
    rw [hmem]
    unfold Dom
    constructor
    · rintro h; exact ⟨hlive p h.1, (hhl p (hlive p h.1)).2 h⟩
    · rintro ⟨h3, h4⟩; exact (hhl p h3).1 h4
  simp (maxDischargeDepth := 30) only [aft_mk, hvl, amL, args0, Nat.reduceEqDiff, reduceCtorEq, ↓reduceIte, Nat.reduceAdd, resultsA, results1, Int.reduceNeg, splice, Nat.reduceLeDiff, part, fillA, fillE, Nat.reduceLT]
  have hbnd : ∀ k, 0 ≤ ((l.take k).map (wd N)).sum ∧ ((l.take k).map (wd N)).sum ≤ 49 * k := fun k => by
    induction k with
    | zero => simp
    | succ k ih =>
      by_cases hk : k < l.length
      · obtain ⟨p, hp⟩ : ∃ p, l[k]? = some p := ⟨_, List.getElem?_eq_getElem hk⟩
        have := wd_bnd hval p
        rw [take_step hp, List.map_append, List.sum_append]
        simp only [List.map_cons, List.map_nil, List.sum_cons, List.sum_nil]
        omega
      · rw [List.take_of_length_le (by omega)] at ih ⊢
        omega
  refine W_range (α := Int) l.length [2, 6, 23] (fun s => [(2, .ptr m.length 0 0), (6, .int .i64 s), (23, v)]) (fun k s M => M = M2 ∧ s = ((l.take k).map (wd N)).sum) 0 rfl (fun _ => rfl) rfl (by omega) (by simp (maxDischargeDepth := 30) only [amL, args0, Nat.reduceEqDiff, reduceCtorEq, ↓reduceIte, Nat.reduceAdd, resultsA, results1, Int.reduceNeg, splice, Nat.reduceLeDiff, part, fillA, fillE, Nat.reduceLT]) (by simp (maxDischargeDepth := 30) only [amL, args0, Nat.reduceEqDiff, reduceCtorEq, ↓reduceIte, Nat.reduceAdd, resultsA, results1, Int.reduceNeg, splice, Nat.reduceLeDiff, part, fillA, fillE, Nat.reduceLT]) (by simp (maxDischargeDepth := 30) only [amL, args0, Nat.reduceEqDiff, reduceCtorEq, ↓reduceIte, Nat.reduceAdd, resultsA, results1, Int.reduceNeg, splice, Nat.reduceLeDiff, part, fillA, fillE, Nat.reduceLT]) ⟨rfl, rfl⟩ ?_ ?_
  · rintro k s fr M hk ⟨f25, f24, f2, f6, f23, -⟩ ⟨rfl, hs⟩
    obtain ⟨p, hp⟩ : ∃ p, l[k]? = some p := ⟨_, List.getElem?_eq_getElem hk⟩
    have hpN : p < N.length := hlive p ((hmem p).1 (List.mem_of_getElem? hp)).1
    obtain ⟨nd, hx'⟩ : ∃ nd, N[p]? = some nd := ⟨_, List.getElem?_eq_getElem hpN⟩
    obtain ⟨tv, he, ht⟩ := hnd p nd hx'
    have ix := hgs.sl.index (ki := .i64) (n := k) (by omega) (by simp; omega)
    have ld := fun o j => hgs.sl.load (o := o) (k := j) (nats_get hp)
    have hsl := hne.grow hgm2
    have ixn := hsl.index (ki := .i64) (n := p) (by omega) (by omega)
    have ldn := fun o j => hsl.load (o := o) (k := j) he
    have ldT := fun j k => load_at0 (k := k) (j := j) (hg2.get hT1)
    simp only [Int.toNat_natCast] at ix ixn
    have hw := wd_get hx'
    have hb := hbnd k
    have hb1 := hbnd (k + 1)
    rw [take_step hp, List.map_append, List.sum_append] at hb1
    simp only [List.map_cons, List.map_nil, List.sum_cons, List.sum_nil, hw] at hb1
    have ws : IntKind.i64.wrap (s + nd.words) = s + nd.words := by rw [wrap_i64] <;> omega
    simp (maxDischargeDepth := 30) only [f25, f24, f2, f6, f23, ix, ld, ldT, ixn, ldn, ws, amL, args0, Nat.reduceEqDiff, reduceCtorEq, ↓reduceIte, Nat.reduceAdd, resultsA, results1, Int.reduceNeg, splice, Nat.reduceLeDiff, part, fillA, fillE, Nat.reduceLT]
    exact ⟨s + nd.words, by simp (maxDischargeDepth := 30) only [f25, f24, f2, f23, amL, args0, Nat.reduceEqDiff, reduceCtorEq, ↓reduceIte, Nat.reduceAdd, resultsA, results1, Int.reduceNeg, splice, Nat.reduceLeDiff, part, fillA, fillE, Nat.reduceLT], rfl, by rw [take_step hp, List.map_append, List.sum_append, hs]; simp [hw]⟩
  · rintro s fr M ⟨f2, f6, f23, -⟩ ⟨rfl, hs⟩
    rw [List.take_length, hsum] at hs
    simp (maxDischargeDepth := 30) only [f6, hs, or_self, amL, args0, Nat.reduceEqDiff, reduceCtorEq, ↓reduceIte, Nat.reduceAdd, resultsA, results1, Int.reduceNeg, splice, Nat.reduceLeDiff, part, fillA, fillE, Nat.reduceLT]
    exact hgm2
theorem without_spec {m : Mem} {v : V} {l : List Int} {y : Int} (h0 : 0 ≤ y) (hv : SlR m v 1 (i64s l)) (hl : l.length ≤ 5000) (hb : ∀ x, x ∈ l → x < 5000) :
    C S n_ref31_without [v, .int .i64 y] m (fun r m' => Grow m m' ∧ GS m.length m' r 1 (i64s (restI y l))) := by
  refine C_body rfl rfl rfl ?_
  unfold ref31_without
  have hlen : (i64s l).length = l.length := by simp
  simp (maxDischargeDepth := 30) only [hv.len, hlen, amL, args0, Nat.reduceEqDiff, reduceCtorEq, ↓reduceIte, Nat.reduceAdd, resultsA, results1, Int.reduceNeg, splice, Nat.reduceLeDiff, part, fillA, fillE, Nat.reduceLT]
  refine W_range (α := V) l.length [1, 5, 8] (fun u => [(1, .int .i64 y), (5, u), (8, v)]) (fun k u M => Grow m M ∧ GS m.length M u 1 (i64s (restI y (l.take k)))) .nils rfl (fun _ => rfl) rfl (by omega) (by simp (maxDischargeDepth := 30) only [amL, args0, Nat.reduceEqDiff, reduceCtorEq, ↓reduceIte, Nat.reduceAdd, resultsA, results1, Int.reduceNeg, splice, Nat.reduceLeDiff, part, fillA, fillE, Nat.reduceLT]) (by simp (maxDischargeDepth := 30) only [amL, args0, Nat.reduceEqDiff, reduceCtorEq, ↓reduceIte, Nat.reduceAdd, resultsA, results1, Int.reduceNeg, splice, Nat.reduceLeDiff, part, fillA, fillE, Nat.reduceLT]) (by simp (maxDischargeDepth := 30) only [amL, args0, Nat.reduceEqDiff, reduceCtorEq, ↓reduceIte, Nat.reduceAdd, resultsA, results1, Int.reduceNeg, splice, Nat.reduceLeDiff, part, fillA, fillE, Nat.reduceLT]) ⟨Grow.refl _, .inl ⟨rfl, by simp [restI]⟩⟩ ?_ ?_
  · rintro i u fr M hi ⟨f10, f9, f1, f5, f8, -⟩ ⟨hg, hgs⟩
    obtain ⟨x, hx⟩ : ∃ x, l[i]? = some x := ⟨_, List.getElem?_eq_getElem hi⟩
    have hxb := hb x (List.mem_of_getElem? hx)
    have hvM := hv.grow hg
    have ix := hvM.index (ki := .i64) (n := i) (by omega) (by omega)
    have ld := fun o j => hvM.load (o := o) (k := j) (i64s_get hx)
    simp only [Int.toNat_natCast] at ix
    have hrs := restI_succ (y := y) hx
    have hrl : (restI y (l.take i)).length ≤ i := by
      have := restI_len (y := y) (l := l.take i)
      simp at this; omega
    have hml := hg.len
    have hpush := fun z : Int => (hgs.app (g := [Blk.cells true [[V.int .i64 z]]])).push (T := M.length) (own := true) (x := [V.int .i64 z]) (zero := [.int .i64 0]) (bytes := 8) rfl (by simp) (by simp [roomy]; omega) (by simp; omega)
    have fin : ∀ z u' M', restI y (l.take (i + 1)) = restI y (l.take i) ++ [z] → GS m.length M' u' 1 (i64s (restI y (l.take i)) ++ [[V.int .i64 z]]) → (∀ c y, blkOf u ≠ some c → (M ++ [Blk.cells true [[V.int .i64 z]]])[c]? = some y → M'[c]? = some y) → Grow m M' ∧ GS m.length M' u' 1 (i64s (restI y (l.take (i + 1)))) := fun z u' M' e h1 h2 =>
      ⟨grow_keep fun c y hc hy => h2 c y (fun e => by have := (hgs.blk e).1; omega) (getElem?_grow (hg.get hy)), by rw [e]; simpa using h1⟩
    by_cases h1 : x < y
    · rw [if_pos h1] at hrs
      obtain ⟨u', M', p1, p2, p3, p4, p5⟩ := hpush x
      have h2 : ¬ y < x := by omega
      simp (maxDischargeDepth := 30) only [f10, f9, f1, f5, f8, ix, ld, h1, amL, args0, Nat.reduceEqDiff, reduceCtorEq, ↓reduceIte, Nat.reduceAdd, resultsA, results1, Int.reduceNeg, splice, Nat.reduceLeDiff, part, fillA, fillE, Nat.reduceLT]
      refine ⟨_, _, p1, ?_⟩
      unfold ref31_without_j0
      simp (maxDischargeDepth := 30) only [f10, f9, f1, f5, f8, h2, amL, args0, Nat.reduceEqDiff, reduceCtorEq, ↓reduceIte, Nat.reduceAdd, resultsA, results1, Int.reduceNeg, splice, Nat.reduceLeDiff, part, fillA, fillE, Nat.reduceLT]
      exact ⟨u', by simp (maxDischargeDepth := 30) only [f10, f9, f1, f8, amL, args0, Nat.reduceEqDiff, reduceCtorEq, ↓reduceIte, Nat.reduceAdd, resultsA, results1, Int.reduceNeg, splice, Nat.reduceLeDiff, part, fillA, fillE, Nat.reduceLT], fin x u' M' hrs p2 p3⟩
    · rw [if_neg h1] at hrs
      by_cases h2 : y < x
      · rw [if_pos h2] at hrs
        have wx : IntKind.i64.wrap (x - 1) = x - 1 := by rw [wrap_i64] <;> omega
        obtain ⟨u', M', p1, p2, p3, p4, p5⟩ := hpush (x - 1)
        simp (maxDischargeDepth := 30) only [f10, f9, f1, f5, f8, ix, ld, h1, amL, args0, Nat.reduceEqDiff, reduceCtorEq, ↓reduceIte, Nat.reduceAdd, resultsA, results1, Int.reduceNeg, splice, Nat.reduceLeDiff, part, fillA, fillE, Nat.reduceLT]
        unfold ref31_without_j0
        simp (maxDischargeDepth := 30) only [f10, f9, f1, f5, f8, h2, wx, amL, args0, Nat.reduceEqDiff, reduceCtorEq, ↓reduceIte, Nat.reduceAdd, resultsA, results1, Int.reduceNeg, splice, Nat.reduceLeDiff, part, fillA, fillE, Nat.reduceLT]
        refine ⟨_, _, p1, ?_⟩
        exact ⟨u', by simp (maxDischargeDepth := 30) only [f10, f9, f1, f8, amL, args0, Nat.reduceEqDiff, reduceCtorEq, ↓reduceIte, Nat.reduceAdd, resultsA, results1, Int.reduceNeg, splice, Nat.reduceLeDiff, part, fillA, fillE, Nat.reduceLT], fin (x - 1) u' M' hrs p2 p3⟩
      · rw [if_neg h2, List.append_nil] at hrs
        simp (maxDischargeDepth := 30) only [f10, f9, f1, f5, f8, ix, ld, h1, amL, args0, Nat.reduceEqDiff, reduceCtorEq, ↓reduceIte, Nat.reduceAdd, resultsA, results1, Int.reduceNeg, splice, Nat.reduceLeDiff, part, fillA, fillE, Nat.reduceLT]
        unfold ref31_without_j0
        simp (maxDischargeDepth := 30) only [f10, f9, f1, f5, f8, h2, amL, args0, Nat.reduceEqDiff, reduceCtorEq, ↓reduceIte, Nat.reduceAdd, resultsA, results1, Int.reduceNeg, splice, Nat.reduceLeDiff, part, fillA, fillE, Nat.reduceLT]
        exact ⟨u, by simp (maxDischargeDepth := 30) only [f10, f9, f1, f5, f8, amL, args0, Nat.reduceEqDiff, reduceCtorEq, ↓reduceIte, Nat.reduceAdd, resultsA, results1, Int.reduceNeg, splice, Nat.reduceLeDiff, part, fillA, fillE, Nat.reduceLT], hg, by rw [hrs]; exact hgs⟩
  · rintro u fr M ⟨f1, f5, f8, -⟩ ⟨hg, hgs⟩
    rw [List.take_length] at hgs
    simp (maxDischargeDepth := 30) only [f5, amL, args0, Nat.reduceEqDiff, reduceCtorEq, ↓reduceIte, Nat.reduceAdd, resultsA, results1, Int.reduceNeg, splice, Nat.reduceLeDiff, part, fillA, fillE, Nat.reduceLT]
    exact ⟨hg, hgs⟩
theorem refWithout_spec {m : Mem} {nv rv : V} {N : List NodeA} {R : List Int} (hG : Gr m nv rv N R) (hf : Fits N R) (ha : ∀ x, x ∈ N → 0 ≤ x.addr) (x : Int) : C S n_ref31_Without [.agg [nv, rv], .int .i64 x] m (fun r m' => Grow m m' ∧ if validG N R = true then (if x < 0 ∨ (N.length : Int) ≤ x then r = .tup [.agg [.nils, .nils], .int .i64 1] else ∃ nv' rv', r = .tup [.agg [nv', rv'], .int .i64 0] ∧ Gr m' nv' rv' (woN N x.toNat) (restI x R)) else r = .tup [.agg [.nils, .nils], .int .i64 2]) := by
  refine C_body rfl rfl rfl ?_
  unfold ref31_Without
  obtain ⟨hc1, hc2⟩ := hG.cells
  obtain ⟨_, els, hne, hel, hnd⟩ := id hG
  have hnl := hne.len
  rw [hel] at hnl
  have r0 : List.replicate 0 Blk.dead = [] := rfl
  have hL1 : (m ++ [Blk.cells true [[nv, rv]]]).length = m.length + 1 := by simp
  generalize hM0 : m ++ [Blk.cells true [[nv, rv]]] ++ [Blk.cells true [[.nils, .nils]]] = M0
  have hg0 : Grow m M0 := by rw [← hM0]; exact (Grow.refl _).app.app
  have hT0 : M0[m.length]? = some (.cells true [[nv, rv]]) := by rw [← hM0]; simp
  have hO0 : M0[m.length + 1]? = some (.cells true [[.nils, .nils]]) := by rw [← hM0]; exact get_last2
  have l0 := fun j k => load_at0 (k := k) (j := j) hT0
  simp (maxDischargeDepth := 30) only [hc1, hc2, hL1, hM0, l0, amL, args0, Nat.reduceEqDiff, reduceCtorEq, ↓reduceIte, Nat.reduceAdd, resultsA, results1, Int.reduceNeg, splice, Nat.reduceLeDiff, part, fillA, fillE, Nat.reduceLT]
  refine (refCheck_spec (hG.grow hg0) hf ha).mono ?_
  rintro _ M1 ⟨rfl, hg1⟩
  have hgm1 := hg0.trans hg1
  have hT1 := hg1.get hT0
  have hO1 := hg1.get hO0
  have ldT1 := fun j k => load_at0 (k := k) (j := j) hT1
  have stO := store_at0 (x := .agg [.nils, .nils]) (j := 0) (n := 2) hO1 rfl (by simp) rfl
  have e0 : splice [V.nils, V.nils] 0 (V.agg [V.nils, V.nils]).cells = [V.nils, V.nils] := rfl
  rw [e0] at stO
  have hlO : m.length + 1 < M1.length := (List.getElem?_eq_some_iff.1 hO1).1
  have ldO : ∀ k, loadV (M1.set (m.length + 1) (.cells true [[V.nils, V.nils]])) k (.ptr (m.length + 1) 0 0) = part [V.nils, V.nils] 0 k := fun k => load_set0 hlO
  have pO : part [V.nils, V.nils] 0 (some 2) = some (.agg [.nils, .nils]) := rfl
  cases hval : validG N R with
  | false =>
    have c2 : ¬ (2 : Int) = 0 := by decide
    simp (maxDischargeDepth := 30) only [aft_mk, c2, Bool.false_eq_true, stO, ldO, pO, r0, List.append_nil, amL, args0, Nat.reduceEqDiff, reduceCtorEq, ↓reduceIte, Nat.reduceAdd, resultsA, results1, Int.reduceNeg, splice, Nat.reduceLeDiff, part, fillA, fillE, Nat.reduceLT]
    exact hgm1.set (by omega) _
  | true =>
  have c00 : ¬ ¬ (0 : Int) = 0 := by omega
  by_cases h1 : x < 0
  · have hx : x < 0 ∨ (N.length : Int) ≤ x := .inl h1
    simp (maxDischargeDepth := 30) only [aft_mk, c00, h1, true_or, stO, ldO, pO, r0, List.append_nil, amL, args0, Nat.reduceEqDiff, reduceCtorEq, ↓reduceIte, Nat.reduceAdd, resultsA, results1, Int.reduceNeg, splice, Nat.reduceLeDiff, part, fillA, fillE, Nat.reduceLT]
    exact hgm1.set (by omega) _
  by_cases h2 : (N.length : Int) ≤ x
  · have hx : x < 0 ∨ (N.length : Int) ≤ x := .inr h2
    simp (maxDischargeDepth := 30) only [aft_mk, c00, h1, h2, or_true, ldT1, hnl, stO, ldO, pO, r0, List.append_nil, amL, args0, Nat.reduceEqDiff, reduceCtorEq, ↓reduceIte, Nat.reduceAdd, resultsA, results1, Int.reduceNeg, splice, Nat.reduceLeDiff, part, fillA, fillE, Nat.reduceLT]
    exact hgm1.set (by omega) _
  have hx : ¬ (x < 0 ∨ (N.length : Int) ≤ x) := by omega
  obtain ⟨y, rfl⟩ : ∃ y : Nat, x = y := ⟨x.toNat, by omega⟩
  have hyn : y < N.length := by omega
  obtain ⟨hn, hto, hlt, hR, hRl, hTs⟩ := valid_to hval
  have hRb : ∀ z, z ∈ R → z < 5000 := fun z hz => by
    rw [hR] at hz
    obtain ⟨b, hb, rfl⟩ := List.mem_map.1 hz
    have := hRl b hb; omega
  have hRn : R.length ≤ 5000 := by
    have h1 : (rootsN R).length ≤ N.length := sorted_len (validG_roots hval) hRl
    simp [rootsN] at h1; omega
  simp (maxDischargeDepth := 30) only [aft_mk, c00, h1, h2, or_self, ldT1, hnl, hc2, amL, args0, Nat.reduceEqDiff, reduceCtorEq, ↓reduceIte, Nat.reduceAdd, resultsA, results1, Int.reduceNeg, splice, Nat.reduceLeDiff, part, fillA, fillE, Nat.reduceLT]
  refine (without_spec (y := y) (by omega) (.inl (hG.grow hgm1).1) hRn hRb).mono ?_
  rintro rv' M2 ⟨hg2, hrv'⟩
  have hgm2 := hgm1.trans hg2
  have hrc := hrv'.sl.cell
  have hrcl := cells_cell hrc
  have ldT2 : ∀ j k, loadV (M2 ++ [Blk.cells true [[V.nils, rv']]]) k (.ptr m.length 0 j) = part [nv, rv] j k := fun j k => load_at0 (getElem?_grow (hg2.get hT1))
  have hm2 : m.length + 1 < M2.length := Nat.lt_of_lt_of_le hlO hg2.len
  simp (maxDischargeDepth := 30) only [aft_mk, hrc, hrcl, ldT2, hnl, amL, args0, Nat.reduceEqDiff, reduceCtorEq, ↓reduceIte, Nat.reduceAdd, resultsA, results1, Int.reduceNeg, splice, Nat.reduceLeDiff, part, fillA, fillE, Nat.reduceLT]
  refine W_range (α := V × List (List V)) N.length [1, 2, 4, 6, 29] (fun _ => [(1, .int .i64 (y : Nat)), (2, .ptr m.length 0 0), (4, .ptr (m.length + 1) 0 0), (6, .ptr M2.length 0 0), (29, nv)])
    (fun k x M => Grow M2 M ∧ M[M2.length]? = some (.cells true [[x.1, rv']]) ∧ NE (M2.length + 1) M x.1 x.2 (((N.take k).eraseIdx y).map (woA y))) (.nils, []) rfl (fun _ => rfl) rfl (by omega) (by simp (maxDischargeDepth := 30) only [amL, args0, Nat.reduceEqDiff, reduceCtorEq, ↓reduceIte, Nat.reduceAdd, resultsA, results1, Int.reduceNeg, splice, Nat.reduceLeDiff, part, fillA, fillE, Nat.reduceLT]) (by simp (maxDischargeDepth := 30) only [amL, args0, Nat.reduceEqDiff, reduceCtorEq, ↓reduceIte, Nat.reduceAdd, resultsA, results1, Int.reduceNeg, splice, Nat.reduceLeDiff, part, fillA, fillE, Nat.reduceLT]) (by simp (maxDischargeDepth := 30) only [amL, args0, Nat.reduceEqDiff, reduceCtorEq, ↓reduceIte, Nat.reduceAdd, resultsA, results1, Int.reduceNeg, splice, Nat.reduceLeDiff, part, fillA, fillE, Nat.reduceLT])
    ⟨(Grow.refl _).app, by simp, .inl ⟨rfl, rfl⟩, by simp, fun j nd hj => by simp at hj⟩ ?_ ?_
  · rintro i ⟨uN, eN⟩ fr M hi ⟨f31, f30, f1, f2, f4, f6, f29, -⟩ ⟨hg, hP, hW⟩
    dsimp only at hP hW
    obtain ⟨nd, hx'⟩ : ∃ nd, N[i]? = some nd := ⟨_, List.getElem?_eq_getElem hi⟩
    obtain ⟨tv, he, ht⟩ := hnd i nd hx'
    have htc := ht.cell
    have hgm := hgm2.trans hg
    have hsl := hne.grow hgm
    have ix := hsl.index (ki := .i64) (n := i) (by omega) (by omega)
    have ld := fun o j => hsl.load (o := o) (k := j) he
    simp only [Int.toNat_natCast] at ix
    have her := erase_take (y := y) hx'
    have hMl : M2.length < M.length := (List.getElem?_eq_some_iff.1 hP).1
    by_cases hiy : (i : Int) = y
    · have hiy' : i = y := by omega
      rw [if_pos hiy'] at her
      have c1 : ¬ ¬ (i : Int) = y := fun e => e hiy
      simp (maxDischargeDepth := 30) only [f31, f30, f1, f2, f4, f6, f29, ix, ld, htc, c1, amL, args0, Nat.reduceEqDiff, reduceCtorEq, ↓reduceIte, Nat.reduceAdd, resultsA, results1, Int.reduceNeg, splice, Nat.reduceLeDiff, part, fillA, fillE, Nat.reduceLT]
      exact ⟨(uN, eN), by simp (maxDischargeDepth := 30) only [f31, f30, f1, f2, f4, f6, f29, amL, args0, Nat.reduceEqDiff, reduceCtorEq, ↓reduceIte, Nat.reduceAdd, resultsA, results1, Int.reduceNeg, splice, Nat.reduceLeDiff, part, fillA, fillE, Nat.reduceLT], hg.app, getElem?_grow hP, by rw [her]; exact hW.keep fun c z _ hz => getElem?_grow hz⟩
    · have hiy' : ¬ i = y := by omega
      rw [if_neg hiy'] at her
      have hr1 : List.replicate 1 Blk.dead = [Blk.dead] := rfl
      generalize hM5 : M ++ [Blk.cells true [[V.int .u64 nd.addr, V.int .i64 nd.words, tv]]] = M5
      have hM5l : M5.length = M.length + 1 := by rw [← hM5]; simp
      have hg5 : Grow M M5 := by rw [← hM5]; exact (Grow.refl _).app
      have hX5 : M5[M.length]? = some (.cells true [[V.int .u64 nd.addr, V.int .i64 nd.words, tv]]) := by rw [← hM5]; simp
      have lP5 : ∀ g j k, loadV (M5 ++ g) k (.ptr M2.length 0 j) = part [uN, rv'] j k := fun g j k => load_at0 (getElem?_grow (hg5.get hP))
      have lX5 : ∀ g j k, loadV (M5 ++ g) k (.ptr M.length 0 j) = part [V.int .u64 nd.addr, V.int .i64 nd.words, tv] j k := fun g j k => load_at0 (getElem?_grow hX5)
      simp (maxDischargeDepth := 30) only [f31, f30, f1, f2, f4, f6, f29, ix, ld, htc, hiy, hM5, lP5, lX5, amL, args0, Nat.reduceEqDiff, reduceCtorEq, ↓reduceIte, Nat.reduceAdd, resultsA, results1, Int.reduceNeg, splice, Nat.reduceLeDiff, part, fillA, fillE, Nat.reduceLT]
      show C S n_ref31_without [tv, .int .i64 (y : Nat)] _ _
      rw [hr1]
      have hto' := hto i nd hx'
      have hb : ∀ z, z ∈ nd.to → z < 5000 := fun z hz => by
        rw [hto'] at hz
        obtain ⟨b, hb, rfl⟩ := List.mem_map.1 hz
        have := hlt i b hb; omega
      have hl5 : nd.to.length ≤ 5000 := by
        have h1 : (toN N i).length ≤ N.length := sorted_len (hTs i) (fun z hz => hlt i z hz)
        rw [hto']; simp; omega
      refine (without_spec (y := y) (by omega) (ht.grow ((hgm.trans hg5).app (g := [Blk.dead]))) hl5 hb).mono ?_
      rintro tv' M6 ⟨hg6, htv'⟩
      have hdl : (M5 ++ [Blk.dead]).length = M5.length + 1 := by simp
      rw [hdl] at htv'
      have hg56 : Grow M5 M6 := (Grow.refl M5).app.trans hg6
      have hd6 : M6[M5.length]? = some .dead := hg6.get (by simp)
      have hP6 : M6[M2.length]? = some (.cells true [[uN, rv']]) := (hg5.trans hg56).get hP
      have hX6 := hg56.get hX5
      have lP6 := fun j k => load_at0 (k := k) (j := j) hP6
      have lX6 := fun j k => load_at0 (k := k) (j := j) hX6
      have hbu : V.beq uN uN = true := by
        rcases hW.1 with ⟨rfl, _⟩ | ⟨b, ex, els', _, rfl, _⟩
        · rfl
        · simp [V.beq]
      rw [aftC_mk]
      refine ⟨?_, ?_⟩
      · simp [chkOk, wantedA, Arg.get, put, lP6, lX6, part, hbu, V.beq]
      have htc' := htv'.sl.cell
      have htcl' := cells_cell htc'
      have hW5 : NE (M2.length + 1) M5 uN eN (((N.take i).eraseIdx y).map (woA y)) := hW.keep fun c z _ hz => hg5.get hz
      have hl6 : M5.length + 1 ≤ M6.length := by have := hg6.len; simp at this; omega
      generalize hM7 : M6.set M5.length (.cells true [[V.int .u64 nd.addr, V.int .i64 nd.words, tv']]) = M7
      have keep7 : ∀ c z, c ≠ M5.length → M6[c]? = some z → M7[c]? = some z := fun c z h1 h2 => by rw [← hM7]; exact set_get (Ne.symm h1) h2
      have hW7 : NE (M2.length + 1) M7 uN eN (((N.take i).eraseIdx y).map (woA y)) := hW5.keep fun c z _ hz => keep7 c z (by have := (List.getElem?_eq_some_iff.1 hz).1; omega) (hg56.get hz)
      have htv7 : GS (M5.length + 1) M7 tv' 1 (i64s (restI y nd.to)) := htv'.keep fun c z hc hz => keep7 c z (by have := (htv'.blk hc).1; omega) hz
      have hT7 : M7[M5.length]? = some (.cells true [[V.int .u64 nd.addr, V.int .i64 nd.words, tv']]) := by rw [← hM7]; exact List.getElem?_set_self (by omega)
      have hP7 : M7[M2.length]? = some (.cells true [[uN, rv']]) := keep7 _ _ (by omega) hP6
      have hg7 : Grow M2 M7 := by rw [← hM7]; exact ((hg.trans hg5).trans hg56).set (by omega) _
      have hl7 : M7.length = M6.length := by rw [← hM7]; simp
      have hub : ∀ c, blkOf uN = some c → M2.length + 1 ≤ c ∧ c < M5.length := fun c hc => ⟨(hW5.1.blk hc).1, (hW5.1.blk hc).2⟩
      have hle : (((N.take i).eraseIdx y).map (woA y)).length ≤ 5000 := by
        have : ((N.take i).eraseIdx y).length ≤ (N.take i).length := List.length_eraseIdx_le _ _
        simp at this ⊢; omega
      obtain ⟨uN', M8, p1, p2, p3, p5⟩ := hW7.push (nd := woA y nd) (T := M5.length) (own := true) (tv := tv') (htv7.weaken (by omega)) (fun c hc e => by have := (htv7.blk hc).1; have := (hub c e).2; omega) hT7 hle (by omega)
      have hP8 : M8[M2.length]? = some (.cells true [[uN, rv']]) := p3 _ _ (fun e => by have := (hub _ e).1; omega) hP7
      have huc := p2.1.sl.cell
      have st8 := store_at0 (x := uN') (j := 0) (n := 1) hP8 (by rw [cells_cell huc]; rfl) (by simp) (by rw [cells_cell huc]; simp [huc])
      have e8 : splice [uN, rv'] 0 uN'.cells = [uN', rv'] := by rw [cells_cell huc]; rfl
      rw [e8] at st8
      simp (maxDischargeDepth := 30) only [htcl', htc', hd6, hM7, f31, f30, f1, f2, f4, f6, f29, amL, args0, Nat.reduceEqDiff, reduceCtorEq, ↓reduceIte, Nat.reduceAdd, resultsA, results1, Int.reduceNeg, splice, Nat.reduceLeDiff, part, fillA, fillE, Nat.reduceLT]
      refine ⟨_, _, p1, _, st8, ?_⟩
      refine ⟨(uN', eN ++ [[V.int .u64 nd.addr, V.int .i64 nd.words, tv']]), by simp (maxDischargeDepth := 30) only [f31, f30, f1, f2, f4, f6, f29, amL, args0, Nat.reduceEqDiff, reduceCtorEq, ↓reduceIte, Nat.reduceAdd, resultsA, results1, Int.reduceNeg, splice, Nat.reduceLeDiff, part, fillA, fillE, Nat.reduceLT], ?_, set_self' hP8, ?_⟩
      · exact (grow_keep fun c y hc hy => p3 c y (fun e => by have := (hub _ e).1; omega) (hg7.get hy) : Grow M2 M8).set (Nat.le_refl _) _
      · rw [her, List.map_append]
        exact p2.keep fun c y hc hy => set_get (by omega) hy
  · rintro ⟨uN, eN⟩ fr M ⟨f1, f2, f4, f6, f29, -⟩ ⟨hg, hP, hW⟩
    dsimp only at hP hW
    rw [List.take_length] at hW
    have hO := (hg2.trans hg).get hO1
    have lP := fun k => load_at0 (k := k) (j := 0) hP
    have huc := hW.1.sl.cell
    have stO2 := store_at0 (x := .agg [uN, rv']) (j := 0) (n := 2) hO rfl (by simp) (by simp [V.cells, huc, hrc])
    have e9 : splice [V.nils, V.nils] 0 (V.agg [uN, rv']).cells = [uN, rv'] := rfl
    rw [e9] at stO2
    have hOl := (List.getElem?_eq_some_iff.1 hO).1
    have ldO2 : ∀ k, loadV (M.set (m.length + 1) (.cells true [[uN, rv']])) k (.ptr (m.length + 1) 0 0) = part [uN, rv'] 0 k := fun k => load_set0 hOl
    have pO2 : part [uN, rv'] 0 (some 2) = some (.agg [uN, rv']) := rfl
    simp (maxDischargeDepth := 30) only [f1, f2, f4, f6, f29, lP, pO2, stO2, ldO2, r0, List.append_nil, amL, args0, Nat.reduceEqDiff, reduceCtorEq, ↓reduceIte, Nat.reduceAdd, resultsA, results1, Int.reduceNeg, splice, Nat.reduceLeDiff, part, fillA, fillE, Nat.reduceLT]
    refine ⟨(hgm2.trans hg).set (by omega) _, uN, rv', rfl, (hW.keep fun c z hc hz => set_get (by omega) hz).gr ?_⟩
    exact ((hrv'.keep (M' := M) fun c z _ hz => hg.get hz).keep fun c z hc hz => set_get (by have := (hrv'.blk hc).1; omega) hz).sl
end Go.AM.G


set_option maxRecDepth 100000
namespace Go.AM.G
open Go Go.AM
def cntF (n : Nat) (f : Nat → Int) : Nat := ((List.range n).map fun p => if f p < 0 then 1 else 0).sum
theorem cntF_upd {n p : Nat} {f : Nat → Int} {d : Int} (hp : p < n) (h : f p < 0) (hd : 0 ≤ d) : cntF n (upd f p d) < cntF n f := by
  have := sum_upd (f := fun x => if upd f p d x < 0 then 1 else 0) (g := fun x => if f x < 0 then 1 else 0) (q := p) (List.range n) List.nodup_range (by simpa using hp) (fun x _ hx => by simp only [upd_ne hx])
  simp only [upd_self] at this
  rw [if_pos h, if_neg (by omega)] at this
  unfold cntF
  omega
/-- what is known of nodes that are nearer than d. -/
structure FarI (to : Nat → List Nat) (src : List Nat) (d : Nat) (out : Nat → Int) (now : List Nat) : Prop where
  w1 : ∀ p, 0 ≤ out p → Pth to src (-1) (out p).toNat p ∧ out p < d
  w2 : ∀ k p, k < d → Pth to src (-1) k p → 0 ≤ out p ∧ out p ≤ k
  srt : now.Pairwise (· < ·)
  w3 : ∀ p, p ∈ now → Pth to src (-1) d p
  w5 : ∀ p q, 0 ≤ out p → q ∈ to p → q ∈ now ∨ 0 ≤ out q
  w6 : ∀ p, p ∈ src → p ∈ now ∨ 0 ≤ out p
/-- a round. -/
structure FarR (to : Nat → List Nat) (src : List Nat) (n d : Nat) (out : Nat → Int) (now done : List Nat) (out' : Nat → Int) (next : List Nat) (ok : Nat → Nat → Prop) : Prop where
  r1 : ∀ p, 0 ≤ out' p → Pth to src (-1) (out' p).toNat p ∧ out' p < (d : Int) + 1
  r2 : ∀ p, 0 ≤ out p → out' p = out p
  dn : ∀ p, p ∈ done → 0 ≤ out' p
  srt : next.Pairwise (· < ·)
  r3 : ∀ p, p ∈ next → Pth to src (-1) (d + 1) p
  r5 : ∀ p q, 0 ≤ out' p → q ∈ to p → ok p q → q ∈ now ∨ q ∈ next ∨ 0 ≤ out' q
  cl : cntF n out' ≤ cntF n out
  cn : next ≠ [] → cntF n out' < cntF n out
section
variable {to : Nat → List Nat} {src : List Nat} {n d : Nat} {out out' : Nat → Int} {now next : List Nat}
theorem FarI.level (h : FarI to src d out now) {p : Nat} (hp : Pth to src (-1) d p) : p ∈ now ∨ 0 ≤ out p := by
  cases hp with
  | start h1 _ => exact h.w6 p h1
  | step h1 h2 _ => exact h.w5 _ _ (h.w2 _ _ (Nat.lt_succ_self _) h1).1 h2
theorem FarR.fin (h : FarI to src d out now) (r : FarR to src n d out now now out' next (fun _ _ => True)) : FarI to src (d + 1) out' next := by
  refine ⟨fun p hp => ⟨(r.r1 p hp).1, by have := (r.r1 p hp).2; omega⟩, fun k p hk hp => ?_, r.srt, r.r3, fun p q hp hq => ?_, fun p hp => ?_⟩
  · have h0 : 0 ≤ out' p := by
      by_cases e : k < d
      · have h1 := h.w2 k p e hp
        rw [r.r2 p h1.1]; exact h1.1
      · have : k = d := by omega
        subst this
        rcases h.level hp with h1 | h1
        · exact r.dn p h1
        · rw [r.r2 p h1]; exact h1
    refine ⟨h0, ?_⟩
    by_cases e : k < d
    · have h1 := h.w2 k p e hp
      rw [r.r2 p h1.1]; exact h1.2
    · have := (r.r1 p h0).2; omega
  · rcases r.r5 p q hp hq trivial with h1 | h1 | h1
    · exact .inr (r.dn q h1)
    · exact .inl h1
    · exact .inr h1
  · rcases h.w6 p hp with h1 | h1
    · exact .inr (r.dn p h1)
    · exact .inr (by rw [r.r2 p h1]; exact h1)
theorem FarR.init (h : FarI to src d out now) : FarR to src n d out now [] out [] (fun _ _ => True) where
  r1 := fun p hp => ⟨(h.w1 p hp).1, by have := (h.w1 p hp).2; omega⟩
  r2 := fun p _ => rfl
  dn := fun p hp => by cases hp
  srt := .nil
  r3 := fun p hp => by cases hp
  r5 := fun p q hp hq _ => (h.w5 p q hp hq).imp id .inr
  cl := Nat.le_refl _
  cn := fun h => absurd rfl h
theorem FarR.skip {done : List Nat} {ok : Nat → Nat → Prop} (r : FarR to src n d out now done out' next ok) {p : Nat} (hp : 0 ≤ out' p) : FarR to src n d out now (done ++ [p]) out' next ok :=
  { r with dn := fun q hq => by rcases List.mem_append.1 hq with h | h; exact r.dn q h; rw [List.mem_singleton.1 h]; exact hp }
theorem FarR.set {done : List Nat} (h : FarI to src d out now) (r : FarR to src n d out now done out' next (fun _ _ => True)) {p : Nat} (hp : Pth to src (-1) d p) (hn : p < n) (h0 : out' p < 0) : FarR to src n d out now (done ++ [p]) (upd out' p d) next (fun p' q => p' = p → q ∈ ([] : List Nat)) ∧ cntF n (upd out' p d) < cntF n out := by
  have hc := cntF_upd (n := n) hn h0 (d := d) (by omega)
  have hcl := r.cl
  have hge : ∀ x, 0 ≤ out' x → upd out' p d x = out' x := fun x hx => upd_ne (fun e => by subst e; omega)
  refine ⟨⟨fun x hx => ?_, fun x hx => ?_, fun x hx => ?_, r.srt, r.r3, fun x q hx hq hok => ?_, by omega, fun _ => by omega⟩, by omega⟩
  · by_cases e : x = p
    · subst e; rw [upd_self]; exact ⟨by simpa using hp, by omega⟩
    · rw [upd_ne e] at hx ⊢; exact r.r1 x hx
  · have h1 := r.r2 x hx
    rw [hge x (by omega)]; exact h1
  · rcases List.mem_append.1 hx with h1 | h1
    · rw [hge x (r.dn x h1)]; exact r.dn x h1
    · rw [List.mem_singleton.1 h1, upd_self]; omega
  · by_cases e : x = p
    · exact absurd (hok e) (by simp)
    · rw [upd_ne e] at hx
      rcases r.r5 x q hx hq trivial with h1 | h1 | h1
      · exact .inl h1
      · exact .inr (.inl h1)
      · exact .inr (.inr (by rw [hge q h1]; exact h1))
theorem FarR.put {done A : List Nat} {p q : Nat} (r : FarR to src n d out now done out' next (fun p' q => p' = p → q ∈ A)) (hc : cntF n out' < cntF n out) (hq : Pth to src (-1) (d + 1) q) : FarR to src n d out now done out' (putN next q) (fun p' q' => p' = p → q' ∈ A ++ [q]) := by
  refine { r with srt := putN_sorted r.srt, r3 := fun x hx => ?_, r5 := fun x y hx hy hok => ?_, cn := fun _ => hc }
  · rcases mem_putN.1 hx with e | e
    · rw [e]; exact hq
    · exact r.r3 x e
  · by_cases e : x = p → y ∈ A
    · rcases r.r5 x y hx hy e with h1 | h1 | h1
      · exact .inl h1
      · exact .inr (.inl (mem_putN.2 (.inr h1)))
      · exact .inr (.inr h1)
    · have e1 : x = p := Classical.byContradiction fun h => e fun h' => absurd h' h
      have e2 := hok e1
      rw [List.mem_append, List.mem_singleton] at e2
      rcases e2 with e2 | e2
      · exact absurd (fun _ => e2) e
      · exact .inr (.inl (mem_putN.2 (.inl e2)))
theorem FarI.done (h : FarI to src d out []) (hs : ∀ p, p ∈ src → p < n) (ht : ∀ p q, q ∈ to p → q < n) : FarOK to src n out := by
  have h0 : ∀ k p, Pth to src (-1) k p → 0 ≤ out p := fun k p hp => by
    induction hp with
    | start h1 _ => rcases h.w6 _ h1 with e | e; cases e; exact e
    | step h1 h2 _ ih => rcases h.w5 _ _ ih h2 with e | e; cases e; exact e
  refine ⟨fun p hp => ⟨(h.w1 p hp).1, pth_lt hs ht (h.w1 p hp).1⟩, fun k p hp => ⟨h0 k p hp, ?_⟩⟩
  by_cases e : k < d
  · exact (h.w2 k p e hp).2
  · have := (h.w1 p (h0 k p hp)).2; omega
end
theorem pushSet' (l : Mem) (x y : Blk) : (l ++ [x]).set l.length y = l ++ [y] := by
  rw [List.set_append_right _ _ (Nat.le_refl _)]
  simp
theorem far_spec {m : Mem} {nv rv : V} {N : List NodeA} {R : List Int} (hG : Gr m nv rv N R) (hf : Fits N R) (hval : validG N R = true) :
    C S n_ref31_far [.agg [nv, rv]] m (fun r m' => Grow m m' ∧ ∃ far, Sl m' r 1 (intF N.length far) ∧ FarOK (toN N) (rootsN R) N.length far) := by
  refine C_body rfl rfl rfl ?_
  unfold ref31_far
  obtain ⟨hc1, hc2⟩ := hG.cells
  obtain ⟨_, els, hne, hel, hnd⟩ := id hG
  obtain ⟨hn, hto, hlt, hR, hRl, hTs⟩ := valid_to hval
  have hRl' : ∀ p, p ∈ rootsN R → p < N.length := hRl
  have hnl := hne.len
  rw [hel] at hnl
  generalize hM0 : m ++ [Blk.cells true [[nv, rv]]] = M0
  have hg0 : Grow m M0 := by rw [← hM0]; exact (Grow.refl _).app
  have hT0 : M0[m.length]? = some (.cells true [[nv, rv]]) := by rw [← hM0]; simp
  have hml : m.length < M0.length := (List.getElem?_eq_some_iff.1 hT0).1
  have l0 := fun j k => load_at0 (k := k) (j := j) hT0
  have rm : roomy N.length 8 = true := by simp [roomy]; omega
  have rz : (0 ≤ (N.length : Int) ∧ (N.length : Int) ≤ N.length) = True := eq_true (by omega)
  have hrep : List.replicate N.length [V.int .i64 0] = intF N.length (fun _ => 0) := by simp [intF, List.map_const']
  simp (maxDischargeDepth := 30) only [hc1, hc2, hM0, l0, hnl, rm, rz, hrep, amL, args0, Nat.reduceEqDiff, reduceCtorEq, ↓reduceIte, Nat.reduceAdd, resultsA, results1, Int.reduceNeg, splice, Nat.reduceLeDiff, part, fillA, fillE, Nat.reduceLT]
  refine W_range (α := Nat → Int) N.length [1, 3] (fun _ => [(1, .ptr m.length 0 0), (3, .slice M0.length 0 N.length N.length true 1)])
    (fun k f M => M = M0 ++ [Blk.cells true (intF N.length f)] ∧ ∀ p, p < k → f p = -1) (fun _ => 0) rfl (fun _ => rfl) rfl (by omega) (by simp (maxDischargeDepth := 30) only [amL, args0, Nat.reduceEqDiff, reduceCtorEq, ↓reduceIte, Nat.reduceAdd, resultsA, results1, Int.reduceNeg, splice, Nat.reduceLeDiff, part, fillA, fillE, Nat.reduceLT]) (by simp (maxDischargeDepth := 30) only [amL, args0, Nat.reduceEqDiff, reduceCtorEq, ↓reduceIte, Nat.reduceAdd, resultsA, results1, Int.reduceNeg, splice, Nat.reduceLeDiff, part, fillA, fillE, Nat.reduceLT]) (by simp (maxDischargeDepth := 30) only [amL, args0, Nat.reduceEqDiff, reduceCtorEq, ↓reduceIte, Nat.reduceAdd, resultsA, results1, Int.reduceNeg, splice, Nat.reduceLeDiff, part, fillA, fillE, Nat.reduceLT]) ⟨rfl, fun p h => absurd h (Nat.not_lt_zero _)⟩ ?_ ?_
  · rintro k f fr M hk ⟨f18, f17, f1, f3, -⟩ ⟨rfl, hf1⟩
    have hb : (M0 ++ [Blk.cells true (intF N.length f)])[M0.length]? = some (.cells true (intF N.length f)) := by simp
    have ix : asIndex 1 (.slice M0.length 0 N.length N.length true 1) (.int .i64 (k : Int)) = some (atp (.slice M0.length 0 N.length N.length true 1) k 0) := by
      simp only [asIndex, atp]; rw [if_pos ⟨by omega, by omega, trivial⟩]; simp
    have st := store_own (n := 1) (len := N.length) (cap := N.length) (z := 1) (ex := true) (x := V.int .i64 (-1)) hb (intF_get hk) rfl rfl rfl
    rw [pushSet'] at st
    simp only [V.cells, intF_set] at st
    simp (maxDischargeDepth := 30) only [f18, f17, f1, f3, ix, st, amL, args0, Nat.reduceEqDiff, reduceCtorEq, ↓reduceIte, Nat.reduceAdd, resultsA, results1, Int.reduceNeg, splice, Nat.reduceLeDiff, part, fillA, fillE, Nat.reduceLT]
    refine ⟨upd f k (-1), by simp (maxDischargeDepth := 30) only [f18, f17, f1, f3, amL, args0, Nat.reduceEqDiff, reduceCtorEq, ↓reduceIte, Nat.reduceAdd, resultsA, results1, Int.reduceNeg, splice, Nat.reduceLeDiff, part, fillA, fillE, Nat.reduceLT], rfl, fun p hp => ?_⟩
    by_cases e : p = k
    · rw [e, upd_self]
    · rw [upd_ne e]; exact hf1 p (by omega)
  · rintro f fr M ⟨f1, f3, -⟩ ⟨rfl, hf1⟩
    have l1 : ∀ j k, loadV (M0 ++ [Blk.cells true (intF N.length f)]) k (.ptr m.length 0 j) = part [nv, rv] j k := fun j k => load_at0 (getElem?_grow hT0)
    have hg1 : Grow m (M0 ++ [Blk.cells true (intF N.length f)]) := hg0.app
    have hF1 : (M0 ++ [Blk.cells true (intF N.length f)])[M0.length]? = some (.cells true (intF N.length f)) := by simp
    have hT1 : (M0 ++ [Blk.cells true (intF N.length f)])[m.length]? = some (.cells true [[nv, rv]]) := getElem?_grow hT0
    generalize M0 ++ [Blk.cells true (intF N.length f)] = M1 at *
    have hrs := roots_sl (hG.grow hg1) hval
    have hrb : blkOf rv ≠ some M0.length := fun e => by have := Sl.blk (roots_sl hG hval) e; omega
    -- beyond the nodes nothing is told
    generalize hff : (fun p => if p < N.length then f p else (-1 : Int)) = f'
    have hneg : ∀ p, f' p = -1 := fun p => by
      subst hff
      by_cases e : p < N.length
      · simp only [if_pos e]; exact hf1 p e
      · simp only [if_neg e]
    have hFe : intF N.length f = intF N.length f' := by
      unfold intF
      refine List.map_congr_left fun p hp => ?_
      rw [hneg p, hf1 p (by simpa using hp)]
    rw [hFe] at hF1
    simp (maxDischargeDepth := 30) only [f1, f3, l1, amL, args0, Nat.reduceEqDiff, reduceCtorEq, ↓reduceIte, Nat.reduceAdd, resultsA, results1, Int.reduceNeg, splice, Nat.reduceLeDiff, part, fillA, fillE, Nat.reduceLT]
    have hc0 : cntF N.length f' ≤ N.length := by
      have : ∀ l : List Nat, (l.map fun p => if f' p < 0 then 1 else 0).sum ≤ l.length := fun l => by
        induction l with
        | nil => simp
        | cons a l ih => simp only [List.map_cons, List.sum_cons, List.length_cons]; split <;> omega
      have h1 := this (List.range N.length)
      rw [List.length_range] at h1
      exact h1
    let I := fun (j : Nat) (fr : Frame) (M : Mem) => ∃ (d : Nat) (out : Nat → Int) (w : V) (now : List Nat), j = 2 * cntF N.length out + (if now = [] then 0 else 1) ∧ d + j ≤ 2 * N.length + 1 ∧ fr 1 = .ptr m.length 0 0 ∧ fr 3 = .slice M0.length 0 N.length N.length true 1 ∧ fr 5 = w ∧ fr 6 = .int .i64 (d : Nat) ∧ Grow m M ∧ M[m.length]? = some (.cells true [[nv, rv]]) ∧ M[M0.length]? = some (.cells true (intF N.length out)) ∧ Sl M w 1 (nats now) ∧ blkOf w ≠ some M0.length ∧ FarI (toN N) (rootsN R) d out now
    refine W_loop I ?_ _ ⟨0, f', rv, rootsN R, rfl, by split <;> omega, by simp (maxDischargeDepth := 30) only [f1, amL, args0, Nat.reduceEqDiff, reduceCtorEq, ↓reduceIte, Nat.reduceAdd, resultsA, results1, Int.reduceNeg, splice, Nat.reduceLeDiff, part, fillA, fillE, Nat.reduceLT], by simp (maxDischargeDepth := 30) only [f3, amL, args0, Nat.reduceEqDiff, reduceCtorEq, ↓reduceIte, Nat.reduceAdd, resultsA, results1, Int.reduceNeg, splice, Nat.reduceLeDiff, part, fillA, fillE, Nat.reduceLT], by simp (maxDischargeDepth := 30) only [amL, args0, Nat.reduceEqDiff, reduceCtorEq, ↓reduceIte, Nat.reduceAdd, resultsA, results1, Int.reduceNeg, splice, Nat.reduceLeDiff, part, fillA, fillE, Nat.reduceLT], by simp (maxDischargeDepth := 30) only [amL, args0, Nat.reduceEqDiff, reduceCtorEq, ↓reduceIte, Nat.reduceAdd, resultsA, results1, Int.reduceNeg, splice, Nat.reduceLeDiff, part, fillA, fillE, Nat.reduceLT]; rfl, hg1, hT1, hF1, hrs, hrb, ⟨fun p hp => by rw [hneg] at hp; omega, fun k p hk => absurd hk (Nat.not_lt_zero _), validG_roots hval, fun p hp => .start hp (by omega), fun p q hp => by rw [hneg] at hp; omega, fun p hp => .inl hp⟩⟩
    clear f1 f3 l1 hg1 hF1 hT1 hrs hrb hneg hc0 hff hf1 hFe
    rintro j fr M ⟨d, out, w, now, rfl, hdj, f1, f3, f5, f6, hg, hT, hF, hw, hwb, hI⟩
    have hnow : now.length ≤ N.length := sorted_len hI.srt fun p hp => pth_lt hRl' hlt (hI.w3 p hp)
    have hwl := hw.len
    simp only [List.length_map] at hwl
    unfold ref31_far_l1
    by_cases h0 : now = []
    · subst h0
      have c0 : ¬ (0 : Int) < ((0 : Nat) : Int) := by omega
      rw [List.length_nil] at hwl
      simp (maxDischargeDepth := 30) only [f1, f3, f5, f6, hwl, c0, amL, args0, Nat.reduceEqDiff, reduceCtorEq, ↓reduceIte, Nat.reduceAdd, resultsA, results1, Int.reduceNeg, splice, Nat.reduceLeDiff, part, fillA, fillE, Nat.reduceLT]
      have hsl : Sl M (.slice M0.length 0 N.length N.length true 1) 1 (intF N.length out) := by
        have := Sl.mk0 (m := M) (b := M0.length) (cap := N.length) (z := 1) (ex := true) hF
        rwa [intF_len] at this
      exact ⟨hg, out, hsl, hI.done hRl' hlt⟩
    · have hpos : 0 < now.length := List.length_pos_iff.2 h0
      have c0 : (0 : Int) < (now.length : Nat) := by omega
      simp (maxDischargeDepth := 30) only [f1, f3, f5, f6, hwl, c0, amL, args0, Nat.reduceEqDiff, reduceCtorEq, ↓reduceIte, Nat.reduceAdd, resultsA, results1, Int.reduceNeg, splice, Nat.reduceLeDiff, part, fillA, fillE, Nat.reduceLT]
      have hml0 : M0.length < M.length := (List.getElem?_eq_some_iff.1 hF).1
      refine W_range (α := (Nat → Int) × V × List Nat) now.length [1, 3, 6, 7, 32] (fun x => [(1, .ptr m.length 0 0), (3, .slice M0.length 0 N.length N.length true 1), (6, .int .i64 (d : Nat)), (7, x.2.1), (32, w)])
        (fun k x M' => (∀ c y, c ≠ M0.length → M[c]? = some y → M'[c]? = some y) ∧ M.length ≤ M'.length ∧ M'[M0.length]? = some (.cells true (intF N.length x.1)) ∧ GS (M0.length + 1) M' x.2.1 1 (nats x.2.2) ∧ FarR (toN N) (rootsN R) N.length d out now (now.take k) x.1 x.2.2 (fun _ _ => True)) (out, .nils, []) rfl (fun _ => rfl) rfl (by omega) (by simp (maxDischargeDepth := 30) only [amL, args0, Nat.reduceEqDiff, reduceCtorEq, ↓reduceIte, Nat.reduceAdd, resultsA, results1, Int.reduceNeg, splice, Nat.reduceLeDiff, part, fillA, fillE, Nat.reduceLT]) (by simp (maxDischargeDepth := 30) only [amL, args0, Nat.reduceEqDiff, reduceCtorEq, ↓reduceIte, Nat.reduceAdd, resultsA, results1, Int.reduceNeg, splice, Nat.reduceLeDiff, part, fillA, fillE, Nat.reduceLT]) (by simp (maxDischargeDepth := 30) only [f1, f3, f5, f6, amL, args0, Nat.reduceEqDiff, reduceCtorEq, ↓reduceIte, Nat.reduceAdd, resultsA, results1, Int.reduceNeg, splice, Nat.reduceLeDiff, part, fillA, fillE, Nat.reduceLT])
        ⟨fun c y _ hy => hy, Nat.le_refl _, hF, .inl ⟨rfl, rfl⟩, FarR.init hI⟩ ?_ ?_
      · rintro k ⟨o1, u, nx⟩ fr M2 hk ⟨g34, g33, g1, g3, g6, g7, g32, -⟩ ⟨hk2, hl2, hF2, hu, hR2⟩
        dsimp only at hF2 hu hR2
        obtain ⟨p, hp⟩ : ∃ p, now[k]? = some p := ⟨_, List.getElem?_eq_getElem hk⟩
        have hpp := hI.w3 p (List.mem_of_getElem? hp)
        have hpN := pth_lt hRl' hlt hpp
        have hg2 : Grow m M2 := grow_keep fun c y hc hy => hk2 c y (by omega) (hg.get hy)
        have hw2 : Sl M2 w 1 (nats now) := Sl.keepB hw fun c y hc hy => hk2 c y (fun e => hwb (e ▸ hc)) hy
        have ix := hw2.index (ki := .i64) (n := k) (by omega) (by simp; omega)
        have ld := fun o j => hw2.load (o := o) (k := j) (nats_get hp)
        simp only [Int.toNat_natCast] at ix
        have hsl : Sl M2 (.slice M0.length 0 N.length N.length true 1) 1 (intF N.length o1) := by
          have := Sl.mk0 (m := M2) (b := M0.length) (cap := N.length) (z := 1) (ex := true) hF2
          rwa [intF_len] at this
        have ixo := hsl.index (ki := .i64) (n := p) (by omega) (by rw [intF_len]; omega)
        have ldo := fun o j => hsl.load (o := o) (k := j) (intF_get hpN)
        simp only [Int.toNat_natCast] at ixo
        by_cases hneg : o1 p < 0
        · obtain ⟨x, hx⟩ : ∃ x, N[p]? = some x := ⟨_, List.getElem?_eq_getElem hpN⟩
          obtain ⟨tv, he, ht⟩ := hnd p x hx
          rw [hto p x hx, ← nats_ints] at ht
          have htl : (toN N p).length ≤ N.length := sorted_len (hTs p) fun q hq => hlt p q hq
          have hbst : (M2.set M0.length (.cells true (intF N.length (upd o1 p d))))[M0.length]? = some (.cells true (intF N.length (upd o1 p d))) := set_self' hF2
          have st := store_own (n := 1) (len := N.length) (cap := N.length) (z := 1) (ex := true) (x := V.int .i64 (d : Nat)) hF2 (intF_get hpN) rfl rfl rfl
          simp only [V.cells, intF_set] at st
          have hg3 : Grow m (M2.set M0.length (.cells true (intF N.length (upd o1 p d)))) := hg2.set (by omega) _
          have hT3 : (M2.set M0.length (.cells true (intF N.length (upd o1 p d))))[m.length]? = some (.cells true [[nv, rv]]) := set_get (by omega) (hk2 _ _ (by omega) hT)
          have hu3 : GS (M0.length + 1) (M2.set M0.length (.cells true (intF N.length (upd o1 p d)))) u 1 (nats nx) := hu.keep fun c y hc hy => set_get (by have := (hu.blk hc).1; omega) hy
          have hk3 : ∀ c y, c ≠ M0.length → M[c]? = some y → (M2.set M0.length (.cells true (intF N.length (upd o1 p d))))[c]? = some y := fun c y hc hy => set_get (Ne.symm hc) (hk2 c y hc hy)
          have hl3 : (M2.set M0.length (.cells true (intF N.length (upd o1 p d)))).length = M2.length := by simp
          generalize M2.set M0.length (.cells true (intF N.length (upd o1 p d))) = M3 at *
          have l3 := fun j k => load_at0 (k := k) (j := j) hT3
          have hn3 := hne.grow hg3
          have ixn := hn3.index (ki := .i64) (n := p) (by omega) (by omega)
          have ldn := fun o j => hn3.load (o := o) (k := j) he
          have htl3 := (ht.grow hg3).len
          simp only [List.length_map] at htl3
          simp only [Int.toNat_natCast] at ixn
          obtain ⟨hR3, hcl⟩ := hR2.set hI hpp hpN hneg
          simp (maxDischargeDepth := 30) only [g34, g33, g1, g3, g6, g7, g32, ix, ld, ixo, ldo, hneg, st, l3, ixn, ldn, htl3, amL, args0, Nat.reduceEqDiff, reduceCtorEq, ↓reduceIte, Nat.reduceAdd, resultsA, results1, Int.reduceNeg, splice, Nat.reduceLeDiff, part, fillA, fillE, Nat.reduceLT]
          refine W_range (α := V × List Nat) (toN N p).length [1, 3, 6, 7, 32, 33, 34, 52] (fun x => [(1, .ptr m.length 0 0), (3, .slice M0.length 0 N.length N.length true 1), (6, .int .i64 (d : Nat)), (7, x.1), (32, w), (33, .int .i64 (now.length : Nat)), (34, .int .i64 (k : Nat)), (52, tv)])
            (fun i x M' => Grow M3 M' ∧ GS (M0.length + 1) M' x.1 1 (nats x.2) ∧ FarR (toN N) (rootsN R) N.length d out now (now.take (k + 1)) (upd o1 p d) x.2 (fun p' q => p' = p → q ∈ (toN N p).take i)) (u, nx) rfl (fun _ => rfl) rfl (by omega) (by simp (maxDischargeDepth := 30) only [amL, args0, Nat.reduceEqDiff, reduceCtorEq, ↓reduceIte, Nat.reduceAdd, resultsA, results1, Int.reduceNeg, splice, Nat.reduceLeDiff, part, fillA, fillE, Nat.reduceLT]) (by simp (maxDischargeDepth := 30) only [amL, args0, Nat.reduceEqDiff, reduceCtorEq, ↓reduceIte, Nat.reduceAdd, resultsA, results1, Int.reduceNeg, splice, Nat.reduceLeDiff, part, fillA, fillE, Nat.reduceLT]) (by simp (maxDischargeDepth := 30) only [g34, g33, g1, g3, g6, g7, g32, amL, args0, Nat.reduceEqDiff, reduceCtorEq, ↓reduceIte, Nat.reduceAdd, resultsA, results1, Int.reduceNeg, splice, Nat.reduceLeDiff, part, fillA, fillE, Nat.reduceLT])
            ⟨Grow.refl _, hu3, by rw [take_step hp]; exact hR3⟩ ?_ ?_
          · rintro i ⟨u2, n2⟩ fr M4 hi ⟨k54, k53, k1, k3, k6, k7, k32, k33, k34, k52, -⟩ ⟨hg4, hu4, hR4⟩
            dsimp only at hu4 hR4
            obtain ⟨q, hq⟩ : ∃ q, (toN N p)[i]? = some q := ⟨_, List.getElem?_eq_getElem hi⟩
            have ht4 := ht.grow (hg3.trans hg4)
            have ixt := ht4.index (ki := .i64) (n := i) (by omega) (by simp; omega)
            have ldt := fun o j => ht4.load (o := o) (k := j) (nats_get hq)
            simp only [Int.toNat_natCast] at ixt
            have hn2 : n2.length ≤ N.length := sorted_len hR4.srt fun x hx => pth_lt hRl' hlt (hR4.r3 x hx)
            simp (maxDischargeDepth := 30) only [k54, k53, k1, k3, k6, k7, k32, k33, k34, k52, ixt, ldt, amL, args0, Nat.reduceEqDiff, reduceCtorEq, ↓reduceIte, Nat.reduceAdd, resultsA, results1, Int.reduceNeg, splice, Nat.reduceLeDiff, part, fillA, fillE, Nat.reduceLT]
            refine (put_spec (l := n2) q hu4 (by omega) (by have := hg4.len; omega)).mono ?_
            rintro r M5 ⟨hg5, hu5⟩
            simp (maxDischargeDepth := 30) only [aft_mk, k54, k53, k1, k3, k6, k7, k32, k33, k34, k52, amL, args0, Nat.reduceEqDiff, reduceCtorEq, ↓reduceIte, Nat.reduceAdd, resultsA, results1, Int.reduceNeg, splice, Nat.reduceLeDiff, part, fillA, fillE, Nat.reduceLT]
            exact ⟨(r, putN n2 q), by simp (maxDischargeDepth := 30) only [k54, k53, k1, k3, k6, k7, k32, k33, k34, k52, amL, args0, Nat.reduceEqDiff, reduceCtorEq, ↓reduceIte, Nat.reduceAdd, resultsA, results1, Int.reduceNeg, splice, Nat.reduceLeDiff, part, fillA, fillE, Nat.reduceLT], hg4.trans hg5, hu5, by rw [take_step hq]; exact hR4.put hcl (.step hpp (List.mem_of_getElem? hq) (by omega))⟩
          · rintro ⟨u2, n2⟩ fr M4 ⟨k1, k3, k6, k7, k32, k33, k34, k52, -⟩ ⟨hg4, hu4, hR4⟩
            dsimp only at hu4 hR4
            rw [List.take_length] at hR4
            simp (maxDischargeDepth := 30) only [amL, args0, Nat.reduceEqDiff, reduceCtorEq, ↓reduceIte, Nat.reduceAdd, resultsA, results1, Int.reduceNeg, splice, Nat.reduceLeDiff, part, fillA, fillE, Nat.reduceLT]
            exact ⟨(upd o1 p d, u2, n2), by simp (maxDischargeDepth := 30) only [k1, k3, k6, k7, k32, k33, k34, amL, args0, Nat.reduceEqDiff, reduceCtorEq, ↓reduceIte, Nat.reduceAdd, resultsA, results1, Int.reduceNeg, splice, Nat.reduceLeDiff, part, fillA, fillE, Nat.reduceLT], fun c y hc hy => hg4.get (hk3 c y hc hy), by have := hg4.len; omega, hg4.get hbst, hu4, { hR4 with r5 := fun x y hx hy _ => hR4.r5 x y hx hy fun e => e ▸ hy }⟩
        · simp (maxDischargeDepth := 30) only [g34, g33, g1, g3, g6, g7, g32, ix, ld, ixo, ldo, hneg, amL, args0, Nat.reduceEqDiff, reduceCtorEq, ↓reduceIte, Nat.reduceAdd, resultsA, results1, Int.reduceNeg, splice, Nat.reduceLeDiff, part, fillA, fillE, Nat.reduceLT]
          exact ⟨(o1, u, nx), by simp (maxDischargeDepth := 30) only [g34, g33, g1, g3, g6, g7, g32, amL, args0, Nat.reduceEqDiff, reduceCtorEq, ↓reduceIte, Nat.reduceAdd, resultsA, results1, Int.reduceNeg, splice, Nat.reduceLeDiff, part, fillA, fillE, Nat.reduceLT], hk2, hl2, hF2, hu, by rw [take_step hp]; exact hR2.skip (by omega)⟩
      · rintro ⟨o1, u, nx⟩ fr M2 ⟨g1, g3, g6, g7, g32, -⟩ ⟨hk2, hl2, hF2, hu, hR2⟩
        dsimp only at hF2 hu hR2
        rw [List.take_length] at hR2
        have hg2 : Grow m M2 := grow_keep fun c y hc hy => hk2 c y (by omega) (hg.get hy)
        have hcl := hR2.cl
        have hcn := hR2.cn
        have wd : IntKind.i64.wrap ((d : Int) + 1) = ((d + 1 : Nat) : Int) := by rw [wrap_i64] <;> omega
        rw [if_neg h0] at hdj ⊢
        simp (maxDischargeDepth := 30) only [g1, g3, g6, g7, g32, wd, amL, args0, Nat.reduceEqDiff, reduceCtorEq, ↓reduceIte, Nat.reduceAdd, resultsA, results1, Int.reduceNeg, splice, Nat.reduceLeDiff, part, fillA, fillE, Nat.reduceLT]
        have hj : 2 * cntF N.length o1 + (if nx = [] then 0 else 1) < 2 * cntF N.length out + 1 := by
          split
          · omega
          · rename_i e; have := hcn e; omega
        exact ⟨_, hj, d + 1, o1, u, nx, rfl, by omega, by simp (maxDischargeDepth := 30) only [g1, amL, args0, Nat.reduceEqDiff, reduceCtorEq, ↓reduceIte, Nat.reduceAdd, resultsA, results1, Int.reduceNeg, splice, Nat.reduceLeDiff, part, fillA, fillE, Nat.reduceLT], by simp (maxDischargeDepth := 30) only [g3, amL, args0, Nat.reduceEqDiff, reduceCtorEq, ↓reduceIte, Nat.reduceAdd, resultsA, results1, Int.reduceNeg, splice, Nat.reduceLeDiff, part, fillA, fillE, Nat.reduceLT], by simp (maxDischargeDepth := 30) only [amL, args0, Nat.reduceEqDiff, reduceCtorEq, ↓reduceIte, Nat.reduceAdd, resultsA, results1, Int.reduceNeg, splice, Nat.reduceLeDiff, part, fillA, fillE, Nat.reduceLT], by simp (maxDischargeDepth := 30) only [amL, args0, Nat.reduceEqDiff, reduceCtorEq, ↓reduceIte, Nat.reduceAdd, resultsA, results1, Int.reduceNeg, splice, Nat.reduceLeDiff, part, fillA, fillE, Nat.reduceLT], hg2, hk2 _ _ (by omega) hT, hF2, hu.sl, fun e => by have := (hu.blk e).1; omega, hR2.fin hI⟩
end Go.AM.G
