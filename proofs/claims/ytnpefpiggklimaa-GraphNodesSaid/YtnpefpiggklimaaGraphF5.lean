/- The document's answer: what a node holds, Holders. -/
import Derived.Test.YtnpefpiggklimaaGraphF4
import Derived.Test.YtnpefpiggklimaaGraphQ
set_option linter.unusedVariables false
set_option linter.unusedSimpArgs false

set_option maxRecDepth 100000
namespace Go.AM.G
open Go Go.AM
/-- none comes to p but through d. -/
def Dom (N : List NodeA) (R : List Int) (d p : Nat) : Prop := Live N R p ∧ ¬ ∃ j, Pth (toN N) (rootsN R) (d : Nat) j p
theorem pth_avoid {to : Nat → List Nat} {src : List Nat} {d : Nat} (hd : ¬ ∃ j, Pth to src (-1) j d) {j p : Nat} (h : Pth to src (-1) j p) : Pth to src (d : Nat) j p := by
  induction h with
  | start h1 h2 => exact .start h1 fun e => hd ⟨0, by have : d = _ := (Int.ofNat.inj e).symm; rw [this]; exact .start h1 h2⟩
  | step h1 h2 h3 ih => exact .step ih h2 fun e => hd ⟨_, by have : d = _ := (Int.ofNat.inj e).symm; rw [this]; exact .step h1 h2 h3⟩
theorem an_rk {N : List NodeA} {R : List Int} {hr : Nat → Int} {up rk : Nat → Nat} (h : ∀ p, p < N.length → (¬ Live N R p → hr p = -2) ∧ (Live N R p → ((up p = N.length ∧ hr p = -1) ∨ (up p < N.length ∧ hr p = up p ∧ Live N R (up p))) ∧ rk (up p) < rk p ∧ ∀ d, d < N.length → (An N.length up p d ↔ ¬ ∃ j, Pth (toN N) (rootsN R) d j p))) {x y : Nat} (hx : Live N R x) (g : An N.length up x y) : y = N.length ∨ (Live N R y ∧ rk y ≤ rk x ∧ (rk y = rk x → y = x)) := by
  induction g with
  | refl x => exact .inr ⟨hx, Nat.le_refl _, fun _ => rfl⟩
  | step hlt g ih =>
    obtain ⟨h1, h2, _⟩ := (h _ hlt).2 hx
    rcases h1 with ⟨e, _⟩ | ⟨_, _, h3⟩
    · rw [e] at g; exact .inl g.first
    · rcases ih h3 with h4 | ⟨h4, h5, h6⟩
      · exact .inl h4
      · exact .inr ⟨h4, by omega, fun e => by omega⟩
theorem An.linear' {k : Nat} {up : Nat → Nat} {a y z : Nat} (g : An k up a y) (g' : An k up a z) : An k up y z ∨ An k up z y := by
  induction g with
  | refl x => exact .inl g'
  | step hlt g ih =>
    rcases g'.cases' with e | ⟨_, g'⟩
    · subst e; exact .inr (.step hlt g)
    · exact ih g'
/-- the nearest of those that were looked at. -/
def BestH (N : List NodeA) (R : List Int) (i k : Nat) (best : Int) : Prop := (best = -1 ∧ ∀ k', k' < k → k' ≠ i → ¬ Dom N R k' i) ∨ ∃ b : Nat, best = b ∧ b < k ∧ b ≠ i ∧ Dom N R b i ∧ ∀ k', k' < k → k' ≠ i → Dom N R k' i → Dom N R k' b
section
variable {N : List NodeA} {R : List Int} {hr : Nat → Int} {i k : Nat} {best : Int}
theorem BestH.skip (h : BestH N R i k best) (hk : ¬ (k ≠ i ∧ Dom N R k i)) : BestH N R i (k + 1) best := by
  rcases h with ⟨h1, h2⟩ | ⟨b, h1, h2, h3, h4, h5⟩
  · refine .inl ⟨h1, fun k' hk' hne hd => ?_⟩
    by_cases e : k' = k
    · subst e; exact hk ⟨hne, hd⟩
    · exact h2 k' (by omega) hne hd
  · refine .inr ⟨b, h1, by omega, h3, h4, fun k' hk' hne hd => ?_⟩
    by_cases e : k' = k
    · subst e; exact absurd ⟨hne, hd⟩ hk
    · exact h5 k' (by omega) hne hd
theorem dom_self (hp : Live N R k) : Dom N R k k := by
  refine ⟨hp, ?_⟩
  rintro ⟨j, h⟩
  cases h with
  | start _ h => exact h rfl
  | step _ _ h => exact h rfl
theorem dom_an (hH : HoldRes N R hr) : ∃ up rk : Nat → Nat, (∀ p d, p < N.length → d < N.length → (Dom N R d p ↔ Live N R p ∧ An N.length up p d)) ∧ (∀ x y, Live N R x → An N.length up x y → y = N.length ∨ (Live N R y ∧ rk y ≤ rk x ∧ (rk y = rk x → y = x))) ∧ (∀ p, p < N.length → (¬ Live N R p → hr p = -2) ∧ (Live N R p → ((up p = N.length ∧ hr p = -1) ∨ (up p < N.length ∧ hr p = up p ∧ Live N R (up p))) ∧ rk (up p) < rk p)) := by
  obtain ⟨up, rk, h⟩ := hH
  refine ⟨up, rk, fun p d hp hd => ?_, fun x y hx g => an_rk h hx g, fun p hp => ⟨(h p hp).1, fun hl => ⟨((h p hp).2 hl).1, ((h p hp).2 hl).2.1⟩⟩⟩
  unfold Dom
  exact and_congr_right fun hl => (((h p hp).2 hl).2.2 d hd).symm
theorem BestH.take (h : BestH N R i k best) (hH : HoldRes N R hr) (hi : i < N.length) (hk : k < N.length) (hne : k ≠ i) (hd : Dom N R k i) (hb : best < 0 ∨ ∃ b : Nat, best = b ∧ Dom N R b k) : BestH N R i (k + 1) (k : Nat) := by
  obtain ⟨up, rk, a1, a2, a3⟩ := dom_an hH
  have hkl : Live N R k := by
    rcases a2 i k hd.1 ((a1 i k hi hk).1 hd).2 with e | e
    · omega
    · exact e.1
  refine .inr ⟨k, rfl, by omega, hne, hd, fun k' hk' hne' hd' => ?_⟩
  by_cases e : k' = k
  · subst e; exact dom_self hkl
  rcases h with ⟨h1, h2⟩ | ⟨b, h1, h2, h3, h4, h5⟩
  · exact absurd hd' (h2 k' (by omega) hne')
  · rcases hb with hb | ⟨b', hb, hbk⟩
    · omega
    · have : b' = b := by omega
      subst this
      have g1 := ((a1 b' k' (by omega) (by omega)).1 (h5 k' (by omega) hne' hd')).2
      have g2 := ((a1 k b' hk (by omega)).1 hbk).2
      exact (a1 k k' hk (by omega)).2 ⟨hkl, g2.trans g1⟩
theorem BestH.stay {b : Nat} (h : BestH N R i k (b : Nat)) (hH : HoldRes N R hr) (hi : i < N.length) (hk : k < N.length) (hd : Dom N R k i) (hb : ¬ Dom N R b k) : BestH N R i (k + 1) (b : Nat) := by
  obtain ⟨up, rk, a1, a2, a3⟩ := dom_an hH
  rcases h with ⟨h1, h2⟩ | ⟨b', h1, h2, h3, h4, h5⟩
  · omega
  have : b = b' := by omega
  subst this
  refine .inr ⟨b, rfl, by omega, h3, h4, fun k' hk' hne' hd' => ?_⟩
  by_cases e : k' = k
  · subst e
    have g1 := ((a1 i k' hi hk).1 hd).2
    have g2 := ((a1 i b hi (by omega)).1 h4).2
    have hkl : Live N R k' := by
      rcases a2 i k' hd.1 g1 with e | e
      · omega
      · exact e.1
    have hbl : Live N R b := by
      rcases a2 i b hd.1 g2 with e | e
      · omega
      · exact e.1
    rcases An.linear' g1 g2 with g | g
    · exact absurd ((a1 k' b hk (by omega)).2 ⟨hkl, g⟩) hb
    · exact (a1 b k' (by omega) hk).2 ⟨hbl, g⟩
  · exact h5 k' (by omega) hne' hd'
theorem BestH.fin (h : BestH N R i N.length best) (hH : HoldRes N R hr) (hi : i < N.length) : (¬ Live N R i → hr i = -2) ∧ (Live N R i → hr i = best) := by
  obtain ⟨up, rk, a1, a2, a3⟩ := dom_an hH
  refine ⟨(a3 i hi).1, fun hl => ?_⟩
  obtain ⟨c1, c2⟩ := (a3 i hi).2 hl
  rcases c1 with ⟨e, c1⟩ | ⟨e, c1, c3⟩
  · rw [c1]
    rcases h with ⟨h1, h2⟩ | ⟨b, h1, h2, h3, h4, h5⟩
    · exact h1.symm
    · rcases ((a1 i b hi h2).1 h4).2.cases' with g | ⟨_, g⟩
      · exact absurd g.symm h3
      · rw [e] at g; have := g.first; omega
  · rw [c1]
    have hne : up i ≠ i := fun e => by rw [e] at c2; omega
    have hup : Dom N R (up i) i := (a1 i _ hi e).2 ⟨hl, .step hi (.refl _)⟩
    rcases h with ⟨h1, h2⟩ | ⟨b, h1, h2, h3, h4, h5⟩
    · exact absurd hup (h2 _ e hne)
    · have g1 := ((a1 b _ h2 e).1 (h5 _ e hne hup)).2
      rcases ((a1 i b hi h2).1 h4).2.cases' with g | ⟨_, g⟩
      · exact absurd g.symm h3
      · have hbl : Live N R b := ((a1 b _ h2 e).1 (h5 _ e hne hup)).1
        rcases a2 _ _ c3 g with q | ⟨_, q1, q2⟩
        · omega
        · rcases a2 _ _ hbl g1 with q | ⟨_, q3, q4⟩
          · omega
          · rw [h1, q4 (by omega)]
end
theorem roots_sl {m : Mem} {nv rv : V} {N : List NodeA} {R : List Int} (hG : Gr m nv rv N R) (hval : validG N R = true) : Sl m rv 1 (nats (rootsN R)) := by
  obtain ⟨_, _, _, hR, _⟩ := valid_to hval
  have h1 := hG.1
  rw [hR] at h1
  rw [nats_ints]; exact h1
theorem refheld_spec {m : Mem} {nv rv : V} {N : List NodeA} {R : List Int} (hG : Gr m nv rv N R) (hf : Fits N R) (hval : validG N R = true) (x : Nat) (hx : x < N.length) :
    C S n_ref31_held [.agg [nv, rv], .int .i64 (x : Nat)] m (fun r m' => Grow m m' ∧ ∃ l, GS m.length m' r 1 (nats l) ∧ l.Pairwise (· < ·) ∧ l.length ≤ 4096 ∧ ∀ p, p ∈ l ↔ Dom N R x p) := by
  obtain ⟨hn, hto, hlt, hR, hRl, _⟩ := valid_to hval
  obtain ⟨hc1, hc2⟩ := hG.cells
  have hrn : (rootsN R).length < 2 ^ 60 := by have := hf.2.1; simpa [rootsN] using this
  have hpl : ∀ b j p, Pth (toN N) (rootsN R) b j p → p < N.length := fun b j p h => pth_lt hRl hlt h
  refine C_body rfl rfl rfl ?_
  unfold ref31_held
  have l0 : ∀ j k, loadV (m ++ [Blk.cells true [[nv, rv]]]) k (.ptr m.length 0 j) = part [nv, rv] j k := fun j k => load_at0 (own := true) (by simp)
  simp (maxDischargeDepth := 30) only [hc1, hc2, l0, amL, args0, Nat.reduceEqDiff, reduceCtorEq, ↓reduceIte, Nat.reduceAdd, resultsA, results1, Int.reduceNeg, splice, Nat.reduceLeDiff, part, fillA, fillE, Nat.reduceLT]
  have hgm0 : Grow m (m ++ [Blk.cells true [[nv, rv]]]) := (Grow.refl _).app
  refine (from_spec (but := -1) (hG.grow hgm0) hf hval (.inl (roots_sl (hG.grow hgm0) hval)) hRl hrn).mono ?_
  rintro v1 M1 ⟨hg1, all, hgs1, hs1, hm1⟩
  have hgm1 := hgm0.trans hg1
  have ldT1 := fun j k => load_at0 (k := k) (j := j) (hg1.get (show (m ++ [Blk.cells true [[nv, rv]]])[m.length]? = some (.cells true [[nv, rv]]) by simp))
  simp (maxDischargeDepth := 30) only [aft_mk, ldT1, hc1, hc2, amL, args0, Nat.reduceEqDiff, reduceCtorEq, ↓reduceIte, Nat.reduceAdd, resultsA, results1, Int.reduceNeg, splice, Nat.reduceLeDiff, part, fillA, fillE, Nat.reduceLT]
  refine (from_spec (but := (x : Nat)) (hG.grow hgm1) hf hval (.inl (roots_sl (hG.grow hgm1) hval)) hRl hrn).mono ?_
  rintro v2 M2 ⟨hg2, rest, hgs2, hs2, hm2⟩
  have hgm2 := hgm1.trans hg2
  have hall := hgs1.sl.grow hg2
  have hal := hall.len
  simp only [List.length_map] at hal
  have hln : ∀ l : List Nat, l.Pairwise (· < ·) → (∀ p, p ∈ l → ∃ b j, Pth (toN N) (rootsN R) b j p) → l.length ≤ 4096 := fun l h1 h2 => Nat.le_trans (sorted_len h1 fun p hp => by obtain ⟨b, j, h⟩ := h2 p hp; exact hpl b j p h) hn
  have hl1 := hln all hs1 fun p hp => ⟨_, (hm1 p).1 hp⟩
  have hl2 := hln rest hs2 fun p hp => ⟨_, (hm2 p).1 hp⟩
  simp (maxDischargeDepth := 30) only [aft_mk, hal, amL, args0, Nat.reduceEqDiff, reduceCtorEq, ↓reduceIte, Nat.reduceAdd, resultsA, results1, Int.reduceNeg, splice, Nat.reduceLeDiff, part, fillA, fillE, Nat.reduceLT]
  let b : Nat → Bool := fun p => decide (p ∉ rest) && decide (x ∈ all)
  refine W_range (α := V × List Nat) all.length [1, 5, 6, 7, 19] (fun w => [(1, .int .i64 (x : Nat)), (5, v1), (6, v2), (7, w.1), (19, v1)])
    (fun k w M => Grow M2 M ∧ GS M2.length M w.1 1 (nats w.2) ∧ w.2 = (all.take k).filter b) (.nils, []) rfl (fun _ => rfl) rfl (by omega) (by simp (maxDischargeDepth := 30) only [amL, args0, Nat.reduceEqDiff, reduceCtorEq, ↓reduceIte, Nat.reduceAdd, resultsA, results1, Int.reduceNeg, splice, Nat.reduceLeDiff, part, fillA, fillE, Nat.reduceLT]) (by simp (maxDischargeDepth := 30) only [amL, args0, Nat.reduceEqDiff, reduceCtorEq, ↓reduceIte, Nat.reduceAdd, resultsA, results1, Int.reduceNeg, splice, Nat.reduceLeDiff, part, fillA, fillE, Nat.reduceLT]) (by simp (maxDischargeDepth := 30) only [amL, args0, Nat.reduceEqDiff, reduceCtorEq, ↓reduceIte, Nat.reduceAdd, resultsA, results1, Int.reduceNeg, splice, Nat.reduceLeDiff, part, fillA, fillE, Nat.reduceLT])
    ⟨Grow.refl _, .inl ⟨rfl, rfl⟩, rfl⟩ ?_ ?_
  · rintro k ⟨u, L⟩ fr M hk ⟨f21, f20, f1, f5, f6, f7, f19, -⟩ ⟨hg, hgs, hL⟩
    dsimp only at hgs hL
    obtain ⟨p, hp⟩ : ∃ q, all[k]? = some q := ⟨_, List.getElem?_eq_getElem hk⟩
    have hsl' := hall.grow hg
    have ix := hsl'.index (ki := .i64) (n := k) (by omega) (by simp; omega)
    have ld := fun o j => hsl'.load (o := o) (k := j) (nats_get hp)
    simp only [Int.toNat_natCast] at ix
    have htk : all.take (k + 1) = all.take k ++ [p] := by obtain ⟨h1, h2⟩ := List.getElem?_eq_some_iff.1 hp; rw [List.take_succ_eq_append_getElem h1, h2]
    have hLl : L.length ≤ 4096 := by rw [hL]; exact Nat.le_trans (List.length_filter_le _ _) (by simp; omega)
    simp (maxDischargeDepth := 30) only [f21, f20, f1, f5, f6, f7, f19, ix, ld, amL, args0, Nat.reduceEqDiff, reduceCtorEq, ↓reduceIte, Nat.reduceAdd, resultsA, results1, Int.reduceNeg, splice, Nat.reduceLeDiff, part, fillA, fillE, Nat.reduceLT]
    refine (rhas_spec p (.inl (hgs2.sl.grow hg)) (by omega)).mono ?_
    rintro _ _ ⟨rfl, rfl⟩
    by_cases c1 : p ∈ rest
    · have hb : b p = false := by simp [b, c1]
      simp (maxDischargeDepth := 30) only [aft_mk, f21, f20, f1, f5, f6, f7, f19, c1, decide_true, amL, args0, Nat.reduceEqDiff, reduceCtorEq, ↓reduceIte, Nat.reduceAdd, resultsA, results1, Int.reduceNeg, splice, Nat.reduceLeDiff, part, fillA, fillE, Nat.reduceLT]
      exact ⟨(u, L), by simp (maxDischargeDepth := 30) only [f21, f20, f1, f5, f6, f7, f19, amL, args0, Nat.reduceEqDiff, reduceCtorEq, ↓reduceIte, Nat.reduceAdd, resultsA, results1, Int.reduceNeg, splice, Nat.reduceLeDiff, part, fillA, fillE, Nat.reduceLT], hg, hgs, by rw [htk, List.filter_append, hL]; simp [hb]⟩
    · simp (maxDischargeDepth := 30) only [aft_mk, f21, f20, f1, f5, f6, f7, f19, c1, decide_false, amL, args0, Nat.reduceEqDiff, reduceCtorEq, ↓reduceIte, Nat.reduceAdd, resultsA, results1, Int.reduceNeg, splice, Nat.reduceLeDiff, part, fillA, fillE, Nat.reduceLT]
      refine (rhas_spec x (.inl hsl') (by omega)).mono ?_
      rintro _ M3 ⟨rfl, rfl⟩
      by_cases c2 : x ∈ all
      · have hb : b p = true := by simp [b, c1, c2]
        simp (maxDischargeDepth := 30) only [aft_mk, f21, f20, f1, f5, f6, f7, f19, c2, decide_true, amL, args0, Nat.reduceEqDiff, reduceCtorEq, ↓reduceIte, Nat.reduceAdd, resultsA, results1, Int.reduceNeg, splice, Nat.reduceLeDiff, part, fillA, fillE, Nat.reduceLT]
        obtain ⟨w', M', a1, a2, a3, a4, a5⟩ := (hgs.app (g := [Blk.cells true [[V.int .i64 (p : Int)]]])).push (bytes := 8) (own := true) (x := [V.int .i64 (p : Int)]) (zero := [.int .i64 0]) rfl (T := M3.length) (by simp) (by simp [roomy]; omega) (by have := hg.len; simp; omega)
        refine ⟨_, _, a1, ?_⟩
        refine ⟨(w', L ++ [p]), by simp (maxDischargeDepth := 30) only [f21, f20, f1, f5, f6, f7, f19, amL, args0, Nat.reduceEqDiff, reduceCtorEq, ↓reduceIte, Nat.reduceAdd, resultsA, results1, Int.reduceNeg, splice, Nat.reduceLeDiff, part, fillA, fillE, Nat.reduceLT], grow_keep fun c y hc hy => a3 c y (fun e => by have := (hgs.blk e).1; omega) (getElem?_grow (hg.get hy)), by simpa using a2, by rw [htk, List.filter_append, hL]; simp [hb]⟩
      · have hb : b p = false := by simp [b, c2]
        simp (maxDischargeDepth := 30) only [aft_mk, f21, f20, f1, f5, f6, f7, f19, c2, decide_false, amL, args0, Nat.reduceEqDiff, reduceCtorEq, ↓reduceIte, Nat.reduceAdd, resultsA, results1, Int.reduceNeg, splice, Nat.reduceLeDiff, part, fillA, fillE, Nat.reduceLT]
        exact ⟨(u, L), by simp (maxDischargeDepth := 30) only [f21, f20, f1, f5, f6, f7, f19, amL, args0, Nat.reduceEqDiff, reduceCtorEq, ↓reduceIte, Nat.reduceAdd, resultsA, results1, Int.reduceNeg, splice, Nat.reduceLeDiff, part, fillA, fillE, Nat.reduceLT], hg, hgs, by rw [htk, List.filter_append, hL]; simp [hb]⟩
  · rintro ⟨u, L⟩ fr M ⟨f1, f5, f6, f7, f19, -⟩ ⟨hg, hgs, hL⟩
    dsimp only at hgs hL
    rw [List.take_length] at hL
    simp (maxDischargeDepth := 30) only [f7, amL, args0, Nat.reduceEqDiff, reduceCtorEq, ↓reduceIte, Nat.reduceAdd, resultsA, results1, Int.reduceNeg, splice, Nat.reduceLeDiff, part, fillA, fillE, Nat.reduceLT]
    refine ⟨hgm2.trans hg, L, hgs.weaken hgm2.len, by rw [hL]; exact hs1.filter _, by rw [hL]; exact Nat.le_trans (List.length_filter_le _ _) hl1, fun p => ?_⟩
    rw [hL, List.mem_filter, hm1]
    simp only [b, Bool.and_eq_true, decide_eq_true_eq, hm2, hm1]
    unfold Dom Live
    rw [← pth_rch]
    constructor
    · rintro ⟨h1, h2, _⟩; exact ⟨h1, h2⟩
    · rintro ⟨h1, h2⟩
      refine ⟨h1, h2, ?_⟩
      refine Classical.byContradiction fun h3 => h2 ?_
      obtain ⟨j, h1⟩ := h1
      exact ⟨j, pth_avoid h3 h1⟩
theorem refHolders_spec {m : Mem} {nv rv : V} {N : List NodeA} {R : List Int} {hr : Nat → Int} (hG : Gr m nv rv N R) (hf : Fits N R) (ha : ∀ x, x ∈ N → 0 ≤ x.addr) (hH : validG N R = true → HoldRes N R hr) :
    C S n_ref31_Holders [.agg [nv, rv]] m (fun r m' => Grow m m' ∧ ((validG N R = false ∧ r = .tup [.nils, .int .i64 2]) ∨ (validG N R = true ∧ ∃ v, r = .tup [v, .int .i64 0] ∧ Sl m' v 1 (intF N.length hr)))) := by
  refine C_body rfl rfl rfl ?_
  unfold ref31_Holders
  obtain ⟨hc1, hc2⟩ := hG.cells
  simp (maxDischargeDepth := 30) only [hc1, hc2, amL, args0, Nat.reduceEqDiff, reduceCtorEq, ↓reduceIte, Nat.reduceAdd, resultsA, results1, Int.reduceNeg, splice, Nat.reduceLeDiff, part, fillA, fillE, Nat.reduceLT]
  refine (refCheck_spec (hG.grow (Grow.refl _).app) hf ha).mono ?_
  rintro _ M1 ⟨rfl, hg1⟩
  have hgm1 : Grow m M1 := (Grow.refl m).app.trans hg1
  have hT1 : M1[m.length]? = some (.cells true [[nv, rv]]) := hg1.get (by simp)
  cases hval : validG N R with
  | false =>
    have c2 : ¬ (2 : Int) = 0 := by decide
    simp (maxDischargeDepth := 30) only [aft_mk, c2, Bool.false_eq_true, amL, args0, Nat.reduceEqDiff, reduceCtorEq, ↓reduceIte, Nat.reduceAdd, resultsA, results1, Int.reduceNeg, splice, Nat.reduceLeDiff, part, fillA, fillE, Nat.reduceLT]
    exact ⟨hgm1, .inl trivial⟩
  | true =>
  have hH := hH hval
  obtain ⟨hn, hto, hlt, hR, hRl, _⟩ := valid_to hval
  obtain ⟨_, els, hne, hel, hnd⟩ := id hG
  have hrn : (rootsN R).length < 2 ^ 60 := by have := hf.2.1; simpa [rootsN] using this
  have c00 : ¬ ¬ (0 : Int) = 0 := by omega
  have ldT1 := fun j k => load_at0 (k := k) (j := j) hT1
  have hnl := hne.len
  rw [hel] at hnl
  simp (maxDischargeDepth := 30) only [aft_mk, c00, ldT1, hc1, hc2, amL, args0, Nat.reduceEqDiff, reduceCtorEq, ↓reduceIte, Nat.reduceAdd, resultsA, results1, Int.reduceNeg, splice, Nat.reduceLeDiff, part, fillA, fillE, Nat.reduceLT]
  refine (from_spec (but := -1) (hG.grow hgm1) hf hval (.inl (roots_sl (hG.grow hgm1) hval)) hRl hrn).mono ?_
  rintro va M2 ⟨hg2, all, hgsa, hsa, hma⟩
  have hgm2 := hgm1.trans hg2
  have ldT2 := fun j k => load_at0 (k := k) (j := j) (hg2.get hT1)
  have hal : all.length < 2 ^ 60 := by
    have := sorted_len hsa fun p hp => by obtain ⟨j, h⟩ := (hma p).1 hp; exact pth_lt hRl hlt h
    omega
  have hmal : ∀ p, p ∈ all ↔ Live N R p := fun p => by rw [hma, pth_rch]; rfl
  simp (maxDischargeDepth := 30) only [aft_mk, ldT2, hnl, amL, args0, Nat.reduceEqDiff, reduceCtorEq, ↓reduceIte, Nat.reduceAdd, resultsA, results1, Int.reduceNeg, splice, Nat.reduceLeDiff, part, fillA, fillE, Nat.reduceLT]
  refine W_range (α := V × List (List Nat)) N.length [1, 4, 5] (fun x => [(1, .ptr m.length 0 0), (4, va), (5, x.1)])
    (fun k x M => Grow M2 M ∧ RW M2.length M x.1 x.2 ∧ x.2.length = k ∧ ∀ i l, x.2[i]? = some l → l.length ≤ 4096 ∧ ∀ p, p ∈ l ↔ Dom N R i p) (.nils, []) rfl (fun _ => rfl) rfl (by omega) (by simp (maxDischargeDepth := 30) only [amL, args0, Nat.reduceEqDiff, reduceCtorEq, ↓reduceIte, Nat.reduceAdd, resultsA, results1, Int.reduceNeg, splice, Nat.reduceLeDiff, part, fillA, fillE, Nat.reduceLT]) (by simp (maxDischargeDepth := 30) only [amL, args0, Nat.reduceEqDiff, reduceCtorEq, ↓reduceIte, Nat.reduceAdd, resultsA, results1, Int.reduceNeg, splice, Nat.reduceLeDiff, part, fillA, fillE, Nat.reduceLT]) (by simp (maxDischargeDepth := 30) only [amL, args0, Nat.reduceEqDiff, reduceCtorEq, ↓reduceIte, Nat.reduceAdd, resultsA, results1, Int.reduceNeg, splice, Nat.reduceLeDiff, part, fillA, fillE, Nat.reduceLT])
    ⟨Grow.refl _, RW.nil, rfl, by simp⟩ ?_ ?_
  · rintro k ⟨u, L⟩ fr M hk ⟨f21, f20, f1, f4, f5, -⟩ ⟨hg, hrw, hLk, hL⟩
    dsimp only at hrw hLk hL
    have hgm := hgm2.trans hg
    have ldT := fun j k => load_at0 (k := k) (j := j) ((hg2.trans hg).get hT1)
    simp (maxDischargeDepth := 30) only [f21, f20, f1, f4, f5, ldT, amL, args0, Nat.reduceEqDiff, reduceCtorEq, ↓reduceIte, Nat.reduceAdd, resultsA, results1, Int.reduceNeg, splice, Nat.reduceLeDiff, part, fillA, fillE, Nat.reduceLT]
    refine (refheld_spec (hG.grow hgm) hf hval k hk).mono ?_
    rintro v M3 ⟨hg3, l, hgs, hsrt, hll, hmem⟩
    have hvc := hgs.sl.cell
    have hblk : ∀ c, blkOf v = some c → blkOf u ≠ some c := fun c hc hu => by
      have h1 := (hgs.blk hc).1
      obtain ⟨tvs, h2, _⟩ := hrw
      have h3 := (h2.blk hu).2
      omega
    obtain ⟨u', M', a1, a2, a3, a4⟩ := (hrw.grow hg3).push hgs.sl hblk (by have := (hg.trans hg3).len; omega) (by simp [roomy]; omega)
    simp (maxDischargeDepth := 30) only [aft_mk, f21, f20, f1, f4, f5, hvc, cells_cell hvc, amL, args0, Nat.reduceEqDiff, reduceCtorEq, ↓reduceIte, Nat.reduceAdd, resultsA, results1, Int.reduceNeg, splice, Nat.reduceLeDiff, part, fillA, fillE, Nat.reduceLT]
    refine ⟨_, _, a1, ?_⟩
    refine ⟨(u', L ++ [l]), by simp (maxDischargeDepth := 30) only [f21, f20, f1, f4, f5, amL, args0, Nat.reduceEqDiff, reduceCtorEq, ↓reduceIte, Nat.reduceAdd, resultsA, results1, Int.reduceNeg, splice, Nat.reduceLeDiff, part, fillA, fillE, Nat.reduceLT], grow_keep fun c y hc hy => a3 c y hc ((hg.trans hg3).get hy), a2, by simp [hLk], fun i l' hi => ?_⟩
    by_cases hik : i < L.length
    · rw [List.getElem?_append_left hik] at hi
      exact hL i l' hi
    · have : i = L.length := by have := (List.getElem?_eq_some_iff.1 hi).1; simp at this; omega
      subst this
      rw [List.getElem?_concat_length] at hi
      cases hi
      exact ⟨hll, by rw [hLk]; exact hmem⟩
  · rintro ⟨u, L⟩ fr M ⟨f1, f4, f5, -⟩ ⟨hg, hrw, hLk, hL⟩
    dsimp only at hrw hLk hL
    have hgm := hgm2.trans hg
    have ldT := fun j k => load_at0 (k := k) (j := j) ((hg2.trans hg).get hT1)
    simp (maxDischargeDepth := 30) only [f1, f4, f5, ldT, hnl, amL, args0, Nat.reduceEqDiff, reduceCtorEq, ↓reduceIte, Nat.reduceAdd, resultsA, results1, Int.reduceNeg, splice, Nat.reduceLeDiff, part, fillA, fillE, Nat.reduceLT]
    refine W_range (α := V) N.length [1, 4, 5, 7] (fun x => [(1, .ptr m.length 0 0), (4, va), (5, u), (7, x)])
      (fun k x M' => Grow M M' ∧ GS M.length M' x 1 (intF k hr)) .nils rfl (fun _ => rfl) rfl (by omega) (by simp (maxDischargeDepth := 30) only [amL, args0, Nat.reduceEqDiff, reduceCtorEq, ↓reduceIte, Nat.reduceAdd, resultsA, results1, Int.reduceNeg, splice, Nat.reduceLeDiff, part, fillA, fillE, Nat.reduceLT]) (by simp (maxDischargeDepth := 30) only [amL, args0, Nat.reduceEqDiff, reduceCtorEq, ↓reduceIte, Nat.reduceAdd, resultsA, results1, Int.reduceNeg, splice, Nat.reduceLeDiff, part, fillA, fillE, Nat.reduceLT]) (by simp (maxDischargeDepth := 30) only [f1, f4, f5, amL, args0, Nat.reduceEqDiff, reduceCtorEq, ↓reduceIte, Nat.reduceAdd, resultsA, results1, Int.reduceNeg, splice, Nat.reduceLeDiff, part, fillA, fillE, Nat.reduceLT])
      ⟨Grow.refl _, .inl ⟨rfl, rfl⟩⟩ ?_ ?_
    · rintro i w fr M3 hi ⟨g34, g33, g1, g4, g5, g7, -⟩ ⟨hg3, hgs⟩
      have hrw2 := hrw.grow hg3
      have ldT3 := fun j k => load_at0 (k := k) (j := j) (((hg2.trans hg).trans hg3).get hT1)
      simp (maxDischargeDepth := 30) only [g34, g33, g1, g4, g5, g7, ldT3, hnl, amL, args0, Nat.reduceEqDiff, reduceCtorEq, ↓reduceIte, Nat.reduceAdd, resultsA, results1, Int.reduceNeg, splice, Nat.reduceLeDiff, part, fillA, fillE, Nat.reduceLT]
      refine W_range (α := Int) N.length [1, 4, 5, 7, 8, 9, 33, 34] (fun best => [(1, .ptr m.length 0 0), (4, va), (5, u), (7, w), (8, .int .i64 (i : Nat)), (9, .int .i64 best), (33, .int .i64 (N.length : Nat)), (34, .int .i64 (i : Nat))])
        (fun k best M' => M' = M3 ∧ BestH N R i k best) (-1) rfl (fun _ => rfl) rfl (by omega) (by simp (maxDischargeDepth := 30) only [amL, args0, Nat.reduceEqDiff, reduceCtorEq, ↓reduceIte, Nat.reduceAdd, resultsA, results1, Int.reduceNeg, splice, Nat.reduceLeDiff, part, fillA, fillE, Nat.reduceLT]) (by simp (maxDischargeDepth := 30) only [amL, args0, Nat.reduceEqDiff, reduceCtorEq, ↓reduceIte, Nat.reduceAdd, resultsA, results1, Int.reduceNeg, splice, Nat.reduceLeDiff, part, fillA, fillE, Nat.reduceLT]) (by simp (maxDischargeDepth := 30) only [g1, g4, g5, g7, g33, g34, amL, args0, Nat.reduceEqDiff, reduceCtorEq, ↓reduceIte, Nat.reduceAdd, resultsA, results1, Int.reduceNeg, splice, Nat.reduceLeDiff, part, fillA, fillE, Nat.reduceLT])
        ⟨rfl, .inl ⟨rfl, fun k' h => absurd h (Nat.not_lt_zero _)⟩⟩ ?_ ?_
      · rintro k best fr M4 hk ⟨k40, k39, k1, k4, k5, k7, k8, k9, k33, k34, -⟩ ⟨hMM, hB⟩
        subst hMM
        obtain ⟨lk, hlk⟩ : ∃ l, L[k]? = some l := ⟨_, List.getElem?_eq_getElem (by omega)⟩
        obtain ⟨tk, ixk, ldk, htk⟩ := hrw2.get hlk
        obtain ⟨hlkl, hmk⟩ := hL k lk hlk
        by_cases hki : k = i
        · have e1 : ¬ ¬ ((k : Int) = (i : Int)) := by omega
          simp (maxDischargeDepth := 30) only [k40, k39, k1, k4, k5, k7, k8, k9, k33, k34, e1, decide_false, amL, args0, Nat.reduceEqDiff, reduceCtorEq, ↓reduceIte, Nat.reduceAdd, resultsA, results1, Int.reduceNeg, splice, Nat.reduceLeDiff, part, fillA, fillE, Nat.reduceLT]
          exact ⟨best, by simp (maxDischargeDepth := 30) only [k40, k39, k1, k4, k5, k7, k8, k9, k33, k34, amL, args0, Nat.reduceEqDiff, reduceCtorEq, ↓reduceIte, Nat.reduceAdd, resultsA, results1, Int.reduceNeg, splice, Nat.reduceLeDiff, part, fillA, fillE, Nat.reduceLT], rfl, hB.skip fun h => h.1 hki⟩
        have e1 : ¬ ((k : Int) = (i : Int)) := by omega
        simp (maxDischargeDepth := 30) only [k40, k39, k1, k4, k5, k7, k8, k9, k33, k34, e1, decide_true, ixk, ldk, amL, args0, Nat.reduceEqDiff, reduceCtorEq, ↓reduceIte, Nat.reduceAdd, resultsA, results1, Int.reduceNeg, splice, Nat.reduceLeDiff, part, fillA, fillE, Nat.reduceLT]
        refine (rhas_spec i (.inl htk) (by omega)).mono ?_
        rintro _ M5 ⟨rfl, rfl⟩
        by_cases c1 : i ∈ lk
        · have hd := (hmk i).1 c1
          by_cases hb : best < 0
          · simp (maxDischargeDepth := 30) only [aft_mk, k40, k39, k1, k4, k5, k7, k8, k9, k33, k34, c1, decide_true, hb, amL, args0, Nat.reduceEqDiff, reduceCtorEq, ↓reduceIte, Nat.reduceAdd, resultsA, results1, Int.reduceNeg, splice, Nat.reduceLeDiff, part, fillA, fillE, Nat.reduceLT]
            exact ⟨(k : Nat), by simp (maxDischargeDepth := 30) only [k40, k39, k1, k4, k5, k7, k8, k9, k33, k34, amL, args0, Nat.reduceEqDiff, reduceCtorEq, ↓reduceIte, Nat.reduceAdd, resultsA, results1, Int.reduceNeg, splice, Nat.reduceLeDiff, part, fillA, fillE, Nat.reduceLT], rfl, hB.take hH hi hk hki hd (.inl hb)⟩
          · obtain ⟨b, rfl⟩ : ∃ b : Nat, best = b := ⟨best.toNat, by omega⟩
            have hbN : b < N.length := by
              rcases hB with ⟨h, _⟩ | ⟨b', h, h2, _⟩ <;> omega
            obtain ⟨lb, hlb⟩ : ∃ l, L[b]? = some l := ⟨_, List.getElem?_eq_getElem (by omega)⟩
            obtain ⟨tb, ixb, ldb, htb⟩ := hrw2.get hlb
            obtain ⟨hlbl, hmb⟩ := hL b lb hlb
            simp (maxDischargeDepth := 30) only [aft_mk, k40, k39, k1, k4, k5, k7, k8, k9, k33, k34, c1, decide_true, hb, decide_false, ixb, ldb, amL, args0, Nat.reduceEqDiff, reduceCtorEq, ↓reduceIte, Nat.reduceAdd, resultsA, results1, Int.reduceNeg, splice, Nat.reduceLeDiff, part, fillA, fillE, Nat.reduceLT]
            refine (rhas_spec k (.inl htb) (by omega)).mono ?_
            rintro _ M6 ⟨rfl, rfl⟩
            by_cases c2 : k ∈ lb
            · simp (maxDischargeDepth := 30) only [aft_mk, k40, k39, k1, k4, k5, k7, k8, k9, k33, k34, c2, decide_true, amL, args0, Nat.reduceEqDiff, reduceCtorEq, ↓reduceIte, Nat.reduceAdd, resultsA, results1, Int.reduceNeg, splice, Nat.reduceLeDiff, part, fillA, fillE, Nat.reduceLT]
              exact ⟨(k : Nat), by simp (maxDischargeDepth := 30) only [k40, k39, k1, k4, k5, k7, k8, k9, k33, k34, amL, args0, Nat.reduceEqDiff, reduceCtorEq, ↓reduceIte, Nat.reduceAdd, resultsA, results1, Int.reduceNeg, splice, Nat.reduceLeDiff, part, fillA, fillE, Nat.reduceLT], rfl, hB.take hH hi hk hki hd (.inr ⟨b, rfl, (hmb k).1 c2⟩)⟩
            · simp (maxDischargeDepth := 30) only [aft_mk, k40, k39, k1, k4, k5, k7, k8, k9, k33, k34, c2, decide_false, amL, args0, Nat.reduceEqDiff, reduceCtorEq, ↓reduceIte, Nat.reduceAdd, resultsA, results1, Int.reduceNeg, splice, Nat.reduceLeDiff, part, fillA, fillE, Nat.reduceLT]
              exact ⟨(b : Nat), by simp (maxDischargeDepth := 30) only [k40, k39, k1, k4, k5, k7, k8, k9, k33, k34, amL, args0, Nat.reduceEqDiff, reduceCtorEq, ↓reduceIte, Nat.reduceAdd, resultsA, results1, Int.reduceNeg, splice, Nat.reduceLeDiff, part, fillA, fillE, Nat.reduceLT], rfl, hB.stay hH hi hk hd fun h => c2 ((hmb k).2 h)⟩
        · simp (maxDischargeDepth := 30) only [aft_mk, k40, k39, k1, k4, k5, k7, k8, k9, k33, k34, c1, decide_false, amL, args0, Nat.reduceEqDiff, reduceCtorEq, ↓reduceIte, Nat.reduceAdd, resultsA, results1, Int.reduceNeg, splice, Nat.reduceLeDiff, part, fillA, fillE, Nat.reduceLT]
          exact ⟨best, by simp (maxDischargeDepth := 30) only [k40, k39, k1, k4, k5, k7, k8, k9, k33, k34, amL, args0, Nat.reduceEqDiff, reduceCtorEq, ↓reduceIte, Nat.reduceAdd, resultsA, results1, Int.reduceNeg, splice, Nat.reduceLeDiff, part, fillA, fillE, Nat.reduceLT], rfl, hB.skip fun h => c1 ((hmk i).2 h.2)⟩
      · rintro best fr M4 ⟨k1, k4, k5, k7, k8, k9, k33, k34, -⟩ ⟨hMM, hB⟩
        subst hMM
        obtain ⟨b1, b2⟩ := hB.fin hH hi
        simp (maxDischargeDepth := 30) only [k1, k4, k5, k7, k8, k9, k33, k34, amL, args0, Nat.reduceEqDiff, reduceCtorEq, ↓reduceIte, Nat.reduceAdd, resultsA, results1, Int.reduceNeg, splice, Nat.reduceLeDiff, part, fillA, fillE, Nat.reduceLT]
        refine (rhas_spec i (.inl (hgsa.sl.grow (hg.trans hg3))) hal).mono ?_
        rintro _ M5 ⟨rfl, rfl⟩
        obtain ⟨w', M', a1, a2, a3, a4, a5⟩ := (hgs.app (g := [Blk.cells true [[V.int .i64 (hr i)]]])).push (T := M5.length) (bytes := 8) (own := true) (x := [V.int .i64 (hr i)]) (zero := [.int .i64 0]) rfl (by simp) (by rw [intF_len]; simp [roomy]; omega) (by have := hg3.len; simp; omega)
        have fin : ∀ fr' : Frame, fr' 1 = .ptr m.length 0 0 → fr' 4 = va → fr' 5 = u → fr' 7 = w' → fr' 33 = .int .i64 (N.length : Nat) → fr' 34 = .int .i64 (i : Nat) → roundK 34 33 N.length (fun x => [(1, .ptr m.length 0 0), (4, va), (5, u), (7, x)]) (fun k x M' => Grow M M' ∧ GS M.length M' x 1 (intF k hr)) i fr' M' :=
          fun fr' h1 h2 h3 h4 h5 h6 => ⟨w', ⟨h6, h5, h1, h2, h3, h4, trivial⟩, grow_keep fun c y hc hy => a3 c y (fun e => by have := (hgs.blk e).1; omega) (getElem?_grow (hg3.get hy)), by
            have : intF (i + 1) hr = intF i hr ++ [[.int .i64 (hr i)]] := by simp [intF, List.range_succ]
            rw [this]; exact a2⟩
        by_cases c1 : i ∈ all
        · have e := b2 ((hmal i).1 c1)
          simp (maxDischargeDepth := 30) only [aft_mk, k1, k4, k5, k7, k8, k9, k33, k34, c1, decide_true, amL, args0, Nat.reduceEqDiff, reduceCtorEq, ↓reduceIte, Nat.reduceAdd, resultsA, results1, Int.reduceNeg, splice, Nat.reduceLeDiff, part, fillA, fillE, Nat.reduceLT]
          unfold ref31_Holders_j0
          simp (maxDischargeDepth := 30) only [k1, k4, k5, k7, k8, k9, k33, k34, amL, args0, Nat.reduceEqDiff, reduceCtorEq, ↓reduceIte, Nat.reduceAdd, resultsA, results1, Int.reduceNeg, splice, Nat.reduceLeDiff, part, fillA, fillE, Nat.reduceLT]
          rw [← e]
          refine ⟨_, _, a1, ?_⟩
          refine fin _ ?_ ?_ ?_ ?_ ?_ ?_
          all_goals simp (maxDischargeDepth := 30) only [k1, k4, k5, k33, k34, amL, args0, Nat.reduceEqDiff, reduceCtorEq, ↓reduceIte, Nat.reduceAdd, resultsA, results1, Int.reduceNeg, splice, Nat.reduceLeDiff, part, fillA, fillE, Nat.reduceLT]
        · have e := b1 fun h => c1 ((hmal i).2 h)
          simp (maxDischargeDepth := 30) only [aft_mk, k1, k4, k5, k7, k8, k9, k33, k34, c1, decide_false, amL, args0, Nat.reduceEqDiff, reduceCtorEq, ↓reduceIte, Nat.reduceAdd, resultsA, results1, Int.reduceNeg, splice, Nat.reduceLeDiff, part, fillA, fillE, Nat.reduceLT]
          unfold ref31_Holders_j0
          simp (maxDischargeDepth := 30) only [k1, k4, k5, k7, k8, k9, k33, k34, amL, args0, Nat.reduceEqDiff, reduceCtorEq, ↓reduceIte, Nat.reduceAdd, resultsA, results1, Int.reduceNeg, splice, Nat.reduceLeDiff, part, fillA, fillE, Nat.reduceLT]
          rw [← e]
          refine ⟨_, _, a1, ?_⟩
          refine fin _ ?_ ?_ ?_ ?_ ?_ ?_
          all_goals simp (maxDischargeDepth := 30) only [k1, k4, k5, k33, k34, amL, args0, Nat.reduceEqDiff, reduceCtorEq, ↓reduceIte, Nat.reduceAdd, resultsA, results1, Int.reduceNeg, splice, Nat.reduceLeDiff, part, fillA, fillE, Nat.reduceLT]
    · rintro w fr M3 ⟨g1, g4, g5, g7, -⟩ ⟨hg3, hgs⟩
      simp (maxDischargeDepth := 30) only [g1, g4, g5, g7, amL, args0, Nat.reduceEqDiff, reduceCtorEq, ↓reduceIte, Nat.reduceAdd, resultsA, results1, Int.reduceNeg, splice, Nat.reduceLeDiff, part, fillA, fillE, Nat.reduceLT]
      exact ⟨hgm.trans hg3, .inr ⟨w, rfl, hgs.sl⟩⟩
end Go.AM.G


set_option maxRecDepth 100000
namespace Go.AM.G
open Go Go.AM
theorem get_last2 {m : Mem} {x y : Blk} : (m ++ [x] ++ [y])[m.length + 1]? = some y := by
  have : m.length + 1 = (m ++ [x]).length := by simp
  rw [this, List.getElem?_concat_length]
/-- a row of nodes that grows. -/
def NE (B : Nat) (M : Mem) (uN : V) (els : List (List V)) (N' : List NodeA) : Prop := GS B M uN 3 els ∧ els.length = N'.length ∧ ∀ (j : Nat) (nd : NodeA), N'[j]? = some nd → ∃ tv, els[j]? = some [.int .u64 nd.addr, .int .i64 nd.words, tv] ∧ GS B M tv 1 (i64s nd.to) ∧ ∀ c, blkOf tv = some c → blkOf uN ≠ some c
theorem NE.keep {B : Nat} {M M' : Mem} {uN : V} {els : List (List V)} {N' : List NodeA} (h : NE B M uN els N') (hk : ∀ c y, B ≤ c → M[c]? = some y → M'[c]? = some y) : NE B M' uN els N' := by
  obtain ⟨h1, h2, h3⟩ := h
  refine ⟨h1.keep fun c y hc hy => hk c y (h1.blk hc).1 hy, h2, fun j nd hj => ?_⟩
  obtain ⟨tv, a, b, c⟩ := h3 j nd hj
  exact ⟨tv, a, b.keep fun x y hx hy => hk x y (b.blk hx).1 hy, c⟩
theorem NE.gr {B : Nat} {M : Mem} {uN rv : V} {els : List (List V)} {N' : List NodeA} {R' : List Int} (h : NE B M uN els N') (hr : Sl M rv 1 (i64s R')) : Gr M uN rv N' R' := by
  obtain ⟨h1, h2, h3⟩ := h
  refine ⟨hr, els, h1.sl, h2, fun j nd hj => ?_⟩
  obtain ⟨tv, a, b, _⟩ := h3 j nd hj
  exact ⟨tv, a, .inl b.sl⟩
theorem NE.push {B T : Nat} {own : Bool} {M : Mem} {uN tv : V} {els : List (List V)} {N' : List NodeA} {nd : NodeA} (h : NE B M uN els N') (htv : GS B M tv 1 (i64s nd.to)) (hb : ∀ c, blkOf tv = some c → blkOf uN ≠ some c) (hT : M[T]? = some (.cells own [[.int .u64 nd.addr, .int .i64 nd.words, tv]])) (hn : N'.length ≤ 5000) (hB : B ≤ M.length) :
    ∃ uN' M', appendV M [.int .u64 0, .int .i64 0, .nils] 40 uN (.slice T 0 1 1 true 3) = some (uN', M') ∧ NE B M' uN' (els ++ [[.int .u64 nd.addr, .int .i64 nd.words, tv]]) (N' ++ [nd]) ∧ (∀ c y, blkOf uN ≠ some c → M[c]? = some y → M'[c]? = some y) ∧ M.length ≤ M'.length := by
  obtain ⟨w1, w2, w3⟩ := h
  obtain ⟨uN', M8, p1, p2, p3, p4, p5⟩ := w1.push (T := T) (own := own) (x := [V.int .u64 nd.addr, V.int .i64 nd.words, tv]) (zero := [.int .u64 0, .int .i64 0, .nils]) (bytes := 40) rfl hT (by simp [roomy]; omega) hB
  have hne : ∀ c, c < M.length → blkOf uN ≠ some c → blkOf uN' ≠ some c := fun c hc hu e => by
    rcases p4 with e2 | e2
    · rw [e2] at e; exact hu e
    · rw [e2] at e; simp at e; omega
  refine ⟨uN', M8, p1, ⟨p2, by simp [w2], fun j nd' hj => ?_⟩, p3, p5⟩
  by_cases hjl : j < els.length
  · rw [List.getElem?_append_left (by rw [← w2]; exact hjl)] at hj
    obtain ⟨tvj, b1, b2, b3⟩ := w3 j nd' hj
    exact ⟨tvj, by rw [List.getElem?_append_left hjl]; exact b1, b2.keep fun c z hc hz => p3 c z (b3 c hc) hz, fun c hc => hne c (b2.blk hc).2 (b3 c hc)⟩
  · have hje : j = els.length := by
      have := (List.getElem?_eq_some_iff.1 hj).1
      rw [List.length_append, ← w2] at this
      simp at this; omega
    subst hje
    rw [w2, List.getElem?_concat_length] at hj
    cases hj
    exact ⟨tv, by rw [List.getElem?_concat_length], htv.keep fun c z hc hz => p3 c z (hb c hc) hz, fun c hc => hne c (htv.blk hc).2 (hb c hc)⟩
theorem app_new {m : Mem} {v : V} {els : List (List V)} (h : SlR m v 1 els) (hr : els.length ≤ 17592186044416) :
    ∃ v' M', appendV (m ++ [Blk.cells true []]) [.int .i64 0] 8 (.slice m.length 0 0 0 true 1) v = some (v', M') ∧ Grow m M' ∧ GS m.length M' v' 1 els ∧ m.length ≤ M'.length := by
  rcases h with h | ⟨rfl, rfl⟩
  · have f0 : Ful m.length (m ++ [Blk.cells true []]) (.slice m.length 0 0 0 true 1) 1 [] := .inr ⟨m.length, true, Nat.le_refl _, rfl, by simp⟩
    obtain ⟨u', M', a1, a2, a3, a4, a5⟩ := f0.pushs (w := v) (ys := els) (zero := [.int .i64 0]) (bytes := 8) rfl h.app (by simp [roomy]; omega) (by simp)
    exact ⟨u', M', a1, grow_keep fun c y hc hy => a3 c y (by simp [blkOf]; omega) (getElem?_grow hy), by simpa using a2.gs, by simp at a5; omega⟩
  · refine ⟨.slice m.length 0 0 0 true 1, m ++ [Blk.cells true []], by simp [appendV, elemsY, zOk], (Grow.refl _).app, .inr ⟨m.length, true, [], Nat.le_refl _, rfl, by simp, rfl⟩, by simp⟩
theorem Copy_spec {m : Mem} {nv rv : V} {N : List NodeA} {R : List Int} (hG : Gr m nv rv N R) (hn : N.length ≤ 60) (hR : R.length ≤ 17592186044416) (hto : ∀ x, x ∈ N → x.to.length ≤ 17592186044416) :
    C S n_ref31_Copy [.agg [nv, rv]] m (fun r m' => Grow m m' ∧ ∃ nv' rv', r = .agg [nv', rv'] ∧ Gr m' nv' rv' N R) := by
  refine C_body rfl rfl rfl ?_
  unfold ref31_Copy
  obtain ⟨hc1, hc2⟩ := hG.cells
  obtain ⟨hrs, els, hne, hel, hnd⟩ := id hG
  have hnl := hne.len
  rw [hel] at hnl
  generalize hM0 : m ++ [Blk.cells true [[nv, rv]]] ++ [Blk.cells true [[.nils, .nils]]] = M0
  have hM0l : M0.length = m.length + 2 := by rw [← hM0]; simp
  have hg0 : Grow m M0 := by rw [← hM0]; exact (Grow.refl _).app.app
  have hT0 : M0[m.length]? = some (.cells true [[nv, rv]]) := by rw [← hM0]; simp
  have hQ0 : M0[m.length + 1]? = some (.cells true [[.nils, .nils]]) := by rw [← hM0]; exact get_last2
  have l1 : ∀ j k g, loadV (M0 ++ g) k (.ptr m.length 0 j) = part [nv, rv] j k := fun j k g => load_at0 (getElem?_grow hT0)
  have hL1 : (m ++ [Blk.cells true [[nv, rv]]]).length = m.length + 1 := by simp
  obtain ⟨rv', M1, a1, a2, a3, a4⟩ := app_new (m := M0) (v := rv) (els := i64s R) (.inl (hrs.grow hg0)) (by simpa using hR)
  have hrc := a3.sl.cell
  simp (maxDischargeDepth := 30) only [hc1, hc2, hM0, hL1, l1, amL, args0, Nat.reduceEqDiff, reduceCtorEq, ↓reduceIte, Nat.reduceAdd, resultsA, results1, Int.reduceNeg, splice, Nat.reduceLeDiff, part, fillA, fillE, Nat.reduceLT]
  refine ⟨_, _, a1, ?_⟩
  have hgm1 := hg0.trans a2
  have hT1 := a2.get hT0
  have l2 : ∀ j k g, loadV (M1 ++ g) k (.ptr m.length 0 j) = part [nv, rv] j k := fun j k g => load_at0 (getElem?_grow hT1)
  simp (maxDischargeDepth := 30) only [hrc, cells_cell hrc, l2, hnl, amL, args0, Nat.reduceEqDiff, reduceCtorEq, ↓reduceIte, Nat.reduceAdd, resultsA, results1, Int.reduceNeg, splice, Nat.reduceLeDiff, part, fillA, fillE, Nat.reduceLT]
  refine W_range (α := V × List (List V)) N.length [2, 3, 12] (fun _ => [(2, .ptr (m.length + 1) 0 0), (3, .ptr M1.length 0 0), (12, nv)])
    (fun k x M => Grow M1 M ∧ M[M1.length]? = some (.cells true [[x.1, rv']]) ∧ NE (M1.length + 1) M x.1 x.2 (N.take k)) (.nils, []) rfl (fun _ => rfl) rfl (by omega) (by simp (maxDischargeDepth := 30) only [amL, args0, Nat.reduceEqDiff, reduceCtorEq, ↓reduceIte, Nat.reduceAdd, resultsA, results1, Int.reduceNeg, splice, Nat.reduceLeDiff, part, fillA, fillE, Nat.reduceLT]) (by simp (maxDischargeDepth := 30) only [amL, args0, Nat.reduceEqDiff, reduceCtorEq, ↓reduceIte, Nat.reduceAdd, resultsA, results1, Int.reduceNeg, splice, Nat.reduceLeDiff, part, fillA, fillE, Nat.reduceLT]) (by simp (maxDischargeDepth := 30) only [amL, args0, Nat.reduceEqDiff, reduceCtorEq, ↓reduceIte, Nat.reduceAdd, resultsA, results1, Int.reduceNeg, splice, Nat.reduceLeDiff, part, fillA, fillE, Nat.reduceLT])
    ⟨(Grow.refl _).app, by simp, .inl ⟨rfl, rfl⟩, by simp, fun j nd hj => by simp at hj⟩ ?_ ?_
  · rintro k ⟨uN, eN⟩ fr M hk ⟨f14, f13, f2, f3, f12, -⟩ ⟨hg, hP, hW⟩
    dsimp only at hP hW
    obtain ⟨nd, hx⟩ : ∃ nd, N[k]? = some nd := ⟨_, List.getElem?_eq_getElem hk⟩
    obtain ⟨tv, he, ht⟩ := hnd k nd hx
    have htc := ht.cell
    have hgm := hgm1.trans hg
    have hsl := hne.grow hgm
    have ix := hsl.index (ki := .i64) (n := k) (by omega) (by omega)
    have ld := fun o j => hsl.load (o := o) (k := j) he
    simp only [Int.toNat_natCast] at ix
    generalize hM5 : M ++ [Blk.cells true [[V.int .u64 nd.addr, V.int .i64 nd.words, tv]]] = M5
    have hg5 : Grow M M5 := by rw [← hM5]; exact (Grow.refl _).app
    have hM5l : M5.length = M.length + 1 := by rw [← hM5]; simp
    have hX5 : M5[M.length]? = some (.cells true [[V.int .u64 nd.addr, V.int .i64 nd.words, tv]]) := by rw [← hM5]; simp
    have hMl : M1.length < M.length := (List.getElem?_eq_some_iff.1 hP).1
    obtain ⟨tv', M6, b1, b2, b3, b4⟩ := app_new (m := M5) (v := tv) (els := i64s nd.to) (ht.grow (hgm.trans hg5)) (by simpa using hto nd (List.mem_of_getElem? hx))
    have htc' := b3.sl.cell
    have lX5 : ∀ j k g, loadV (M5 ++ g) k (.ptr M.length 0 j) = part [V.int .u64 nd.addr, V.int .i64 nd.words, tv] j k := fun j k g => load_at0 (getElem?_grow hX5)
    have hX6 := b2.get hX5
    have st6 := store_at0 (x := tv') (j := 2) (n := 1) hX6 (by rw [cells_cell htc']; rfl) (by simp) (by rw [cells_cell htc']; simp [htc'])
    have e6 : splice [V.int .u64 nd.addr, V.int .i64 nd.words, tv] 2 tv'.cells = [V.int .u64 nd.addr, V.int .i64 nd.words, tv'] := by rw [cells_cell htc']; rfl
    rw [e6] at st6
    simp (maxDischargeDepth := 30) only [f14, f13, f2, f3, f12, ix, ld, htc, hM5, lX5, amL, args0, Nat.reduceEqDiff, reduceCtorEq, ↓reduceIte, Nat.reduceAdd, resultsA, results1, Int.reduceNeg, splice, Nat.reduceLeDiff, part, fillA, fillE, Nat.reduceLT]
    refine ⟨_, _, b1, ?_⟩
    refine ⟨_, st6, ?_⟩
    have hP6 : (M6.set M.length (.cells true [[V.int .u64 nd.addr, V.int .i64 nd.words, tv']]))[M1.length]? = some (.cells true [[uN, rv']]) := set_get (by omega) ((hg5.trans b2).get hP)
    have hX7 : (M6.set M.length (.cells true [[V.int .u64 nd.addr, V.int .i64 nd.words, tv']]))[M.length]? = some (.cells true [[V.int .u64 nd.addr, V.int .i64 nd.words, tv']]) := set_self' hX6
    have hl7 : (M6.set M.length (.cells true [[V.int .u64 nd.addr, V.int .i64 nd.words, tv']])).length = M6.length := by simp
    have hW7 : NE (M1.length + 1) (M6.set M.length (.cells true [[V.int .u64 nd.addr, V.int .i64 nd.words, tv']])) uN eN (N.take k) := hW.keep fun c y hc hy => set_get (by have := (List.getElem?_eq_some_iff.1 hy).1; omega) ((hg5.trans b2).get hy)
    have htv7 : GS M5.length (M6.set M.length (.cells true [[V.int .u64 nd.addr, V.int .i64 nd.words, tv']])) tv' 1 (i64s nd.to) := b3.keep fun c y hc hy => set_get (by have := (b3.blk hc).1; omega) hy
    have hg7 : Grow M1 (M6.set M.length (.cells true [[V.int .u64 nd.addr, V.int .i64 nd.words, tv']])) := ((hg.trans hg5).trans b2).set (by omega) _
    generalize M6.set M.length (.cells true [[V.int .u64 nd.addr, V.int .i64 nd.words, tv']]) = M7 at *
    have lP7 := fun j k => load_at0 (k := k) (j := j) hP6
    have lX7 := fun j k => load_at0 (k := k) (j := j) hX7
    have hub : ∀ c, blkOf uN = some c → M1.length + 1 ≤ c ∧ c < M.length := fun c hc => ⟨(hW.1.blk hc).1, (hW.1.blk hc).2⟩
    have hW8 : NE (M1.length + 1) (M7 ++ [Blk.cells true [[V.int .u64 nd.addr, V.int .i64 nd.words, tv']]]) uN eN (N.take k) := hW7.keep fun c y _ hy => getElem?_grow hy
    obtain ⟨uN', M8, p1, p2, p3, p5⟩ := hW8.push (nd := nd) (T := M7.length) (own := true) (tv := tv') ((htv7.weaken (by omega)).app) (fun c hc e => by have := (htv7.blk hc).1; have := (hub c e).2; omega) (by simp) (by simp; omega) (by simp; omega)
    have hP8 : M8[M1.length]? = some (.cells true [[uN, rv']]) := p3 _ _ (fun e => by have := (hub _ e).1; omega) (getElem?_grow hP6)
    have huc := p2.1.sl.cell
    have st8 := store_at0 (x := uN') (j := 0) (n := 1) hP8 (by rw [cells_cell huc]; rfl) (by simp) (by rw [cells_cell huc]; simp [huc])
    have e8 : splice [uN, rv'] 0 uN'.cells = [uN', rv'] := by rw [cells_cell huc]; rfl
    rw [e8] at st8
    simp (maxDischargeDepth := 30) only [f14, f13, f2, f3, f12, lP7, lX7, htc', amL, args0, Nat.reduceEqDiff, reduceCtorEq, ↓reduceIte, Nat.reduceAdd, resultsA, results1, Int.reduceNeg, splice, Nat.reduceLeDiff, part, fillA, fillE, Nat.reduceLT]
    refine ⟨_, _, p1, ?_⟩
    refine ⟨_, st8, ?_⟩
    have htk : N.take (k + 1) = N.take k ++ [nd] := by obtain ⟨h1, h2⟩ := List.getElem?_eq_some_iff.1 hx; rw [List.take_succ_eq_append_getElem h1, h2]
    refine ⟨(uN', eN ++ [[V.int .u64 nd.addr, V.int .i64 nd.words, tv']]), by simp (maxDischargeDepth := 30) only [f14, f13, f2, f3, f12, amL, args0, Nat.reduceEqDiff, reduceCtorEq, ↓reduceIte, Nat.reduceAdd, resultsA, results1, Int.reduceNeg, splice, Nat.reduceLeDiff, part, fillA, fillE, Nat.reduceLT], ?_, set_self' hP8, ?_⟩
    · exact (grow_keep fun c y hc hy => p3 c y (fun e => by have := (hub _ e).1; omega) (getElem?_grow (hg7.get hy)) : Grow M1 M8).set (Nat.le_refl _) _
    · rw [htk]
      exact p2.keep fun c y hc hy => set_get (by omega) hy
  · rintro ⟨uN, eN⟩ fr M ⟨f2, f3, f12, -⟩ ⟨hg, hP, hW⟩
    dsimp only at hP hW
    rw [List.take_length] at hW
    have lP := fun k => load_at0 (k := k) (j := 0) hP
    have hQ : M[m.length + 1]? = some (.cells true [[.nils, .nils]]) := (a2.trans hg).get hQ0
    have huc := hW.1.sl.cell
    have stQ := store_at0 (x := .agg [uN, rv']) (j := 0) (n := 2) hQ rfl (by simp) (by simp [V.cells, huc, hrc])
    have e9 : splice [V.nils, V.nils] 0 (V.agg [uN, rv']).cells = [uN, rv'] := rfl
    rw [e9] at stQ
    have hQl := (List.getElem?_eq_some_iff.1 hQ).1
    have ldQ : ∀ k, loadV (M.set (m.length + 1) (.cells true [[uN, rv']])) k (.ptr (m.length + 1) 0 0) = part [uN, rv'] 0 k := fun k => load_set0 hQl
    have pQ : part [uN, rv'] 0 (some 2) = some (.agg [uN, rv']) := rfl
    simp (maxDischargeDepth := 30) only [f2, f3, f12, lP, pQ, stQ, ldQ, amL, args0, Nat.reduceEqDiff, reduceCtorEq, ↓reduceIte, Nat.reduceAdd, resultsA, results1, Int.reduceNeg, splice, Nat.reduceLeDiff, part, fillA, fillE, Nat.reduceLT]
    have hM1l : M0.length ≤ M1.length := a2.len
    refine ⟨(hgm1.trans hg).set (by omega) _, uN, rv', rfl, (hW.keep fun c z hc hz => set_get (by omega) hz).gr ?_⟩
    exact ((a3.keep (M' := M) fun c z _ hz => hg.get hz).keep fun c z hc hz => set_get (by have := (a3.blk hc).1; omega) hz).sl
theorem Same_spec {m : Mem} {nv rv nv' rv' : V} {N : List NodeA} {R : List Int} (h1 : Gr m nv rv N R) (h2 : Gr m nv' rv' N R) (hf : Fits N R) : C S n_ref31_Same [.agg [nv, rv], .agg [nv', rv']] m (fun r m' => r = .bool true ∧ Grow m m') := by
  refine C_body rfl rfl rfl ?_
  unfold ref31_Same
  obtain ⟨hc1, hc2⟩ := h1.cells
  obtain ⟨hd1, hd2⟩ := h2.cells
  obtain ⟨hr1, els, hne, hel, hnd⟩ := id h1
  obtain ⟨hr2, els', hne', hel', hnd'⟩ := id h2
  have hnl := hne.len
  have hnl' := hne'.len
  rw [hel] at hnl
  rw [hel'] at hnl'
  have hN60 := hf.1
  generalize hM0 : m ++ [Blk.cells true [[nv, rv]]] ++ [Blk.cells true [[nv', rv']]] = M0
  have hg0 : Grow m M0 := by rw [← hM0]; exact (Grow.refl _).app.app
  have hT0 : M0[m.length]? = some (.cells true [[nv, rv]]) := by rw [← hM0]; simp
  have hQ0 : M0[m.length + 1]? = some (.cells true [[nv', rv']]) := by rw [← hM0]; exact get_last2
  have l1 := fun j k => load_at0 (k := k) (j := j) hT0
  have l2 := fun j k => load_at0 (k := k) (j := j) hQ0
  have hL1 : (m ++ [Blk.cells true [[nv, rv]]]).length = m.length + 1 := by simp
  simp (maxDischargeDepth := 30) only [hc1, hc2, hd1, hd2, hM0, hL1, l1, l2, hnl, hnl', eq_self, amL, args0, Nat.reduceEqDiff, reduceCtorEq, ↓reduceIte, Nat.reduceAdd, resultsA, results1, Int.reduceNeg, splice, Nat.reduceLeDiff, part, fillA, fillE, Nat.reduceLT]
  refine (SamePlaces_spec (.inl (hr1.grow hg0)) (.inl (hr2.grow hg0)) hf.2.1).mono ?_
  rintro _ _ ⟨rfl, rfl⟩
  simp (maxDischargeDepth := 30) only [aft_mk, l1, hnl, eq_self, amL, args0, Nat.reduceEqDiff, reduceCtorEq, ↓reduceIte, Nat.reduceAdd, resultsA, results1, Int.reduceNeg, splice, Nat.reduceLeDiff, part, fillA, fillE, Nat.reduceLT]
  clear l1 l2 hM0
  rename_i M0
  refine W_range (α := Unit) N.length [3, 24] (fun _ => [(3, .ptr (m.length + 1) 0 0), (24, nv)]) (fun k x M => Grow M0 M) () rfl (fun _ => rfl) rfl (by omega) (by simp (maxDischargeDepth := 30) only [amL, args0, Nat.reduceEqDiff, reduceCtorEq, ↓reduceIte, Nat.reduceAdd, resultsA, results1, Int.reduceNeg, splice, Nat.reduceLeDiff, part, fillA, fillE, Nat.reduceLT]) (by simp (maxDischargeDepth := 30) only [amL, args0, Nat.reduceEqDiff, reduceCtorEq, ↓reduceIte, Nat.reduceAdd, resultsA, results1, Int.reduceNeg, splice, Nat.reduceLeDiff, part, fillA, fillE, Nat.reduceLT]) (by simp (maxDischargeDepth := 30) only [amL, args0, Nat.reduceEqDiff, reduceCtorEq, ↓reduceIte, Nat.reduceAdd, resultsA, results1, Int.reduceNeg, splice, Nat.reduceLeDiff, part, fillA, fillE, Nat.reduceLT]) (Grow.refl _) ?_ ?_
  · rintro k ⟨⟩ fr M hk ⟨f26, f25, f3, f24, -⟩ hg
    obtain ⟨nd, hx⟩ : ∃ nd, N[k]? = some nd := ⟨_, List.getElem?_eq_getElem hk⟩
    obtain ⟨tv, he, ht⟩ := hnd k nd hx
    obtain ⟨tv', he', ht'⟩ := hnd' k nd hx
    have htc := ht.cell
    have htc' := ht'.cell
    have hgm := hg0.trans hg
    generalize hX : [[V.int .u64 nd.addr, V.int .i64 nd.words, tv]] = eX
    generalize hY : [[V.int .u64 nd.addr, V.int .i64 nd.words, tv']] = eY
    have hsl := hne.grow hgm
    have ix := hsl.index (ki := .i64) (n := k) (by omega) (by omega)
    have ld := fun o j => hsl.load (o := o) (k := j) he
    have hsl' := hne'.grow (hgm.app (g := [Blk.cells true eX]))
    have ix' := hsl'.index (ki := .i64) (n := k) (by omega) (by omega)
    have ld' := fun o j => hsl'.load (o := o) (k := j) he'
    simp only [Int.toNat_natCast] at ix ix'
    have lQ : ∀ j k, loadV (M ++ [Blk.cells true eX]) k (.ptr (m.length + 1) 0 j) = part [nv', rv'] j k := fun j k => load_at0 (getElem?_grow (hg.get hQ0))
    have lX : ∀ j k, loadV (M ++ [Blk.cells true eX] ++ [Blk.cells true eY]) k (.ptr M.length 0 j) = part [V.int .u64 nd.addr, V.int .i64 nd.words, tv] j k := fun j k => load_at0 (own := true) (by rw [← hX]; exact getElem?_grow (by simp))
    have lY : ∀ j k, loadV (M ++ [Blk.cells true eX] ++ [Blk.cells true eY]) k (.ptr (M.length + 1) 0 j) = part [V.int .u64 nd.addr, V.int .i64 nd.words, tv'] j k := fun j k => load_at0 (own := true) (by rw [← hX, ← hY]; exact get_last2)
    have hLX : (M ++ [Blk.cells true eX]).length = M.length + 1 := by simp
    simp (maxDischargeDepth := 30) only [f26, f25, f3, f24, ix, ld, htc, hX, amL, args0, Nat.reduceEqDiff, reduceCtorEq, ↓reduceIte, Nat.reduceAdd, resultsA, results1, Int.reduceNeg, splice, Nat.reduceLeDiff, part, fillA, fillE, Nat.reduceLT]
    simp (maxDischargeDepth := 30) only [f26, f25, f3, f24, lQ, ix', ld', hLX, htc', hY, lX, lY, eq_self, amL, args0, Nat.reduceEqDiff, reduceCtorEq, ↓reduceIte, Nat.reduceAdd, resultsA, results1, Int.reduceNeg, splice, Nat.reduceLeDiff, part, fillA, fillE, Nat.reduceLT]
    have hgg : Grow m (M ++ [Blk.cells true eX] ++ [Blk.cells true eY]) := hgm.app.app
    refine (SamePlaces_spec (ht.grow hgg) (ht'.grow hgg) (hf.2.2 nd (List.mem_of_getElem? hx))).mono ?_
    rintro _ _ ⟨rfl, rfl⟩
    simp (maxDischargeDepth := 30) only [aft_mk, f26, f25, f3, f24, eq_self, amL, args0, Nat.reduceEqDiff, reduceCtorEq, ↓reduceIte, Nat.reduceAdd, resultsA, results1, Int.reduceNeg, splice, Nat.reduceLeDiff, part, fillA, fillE, Nat.reduceLT]
    exact ⟨(), by simp (maxDischargeDepth := 30) only [f26, f25, f3, f24, amL, args0, Nat.reduceEqDiff, reduceCtorEq, ↓reduceIte, Nat.reduceAdd, resultsA, results1, Int.reduceNeg, splice, Nat.reduceLeDiff, part, fillA, fillE, Nat.reduceLT], hg.app.app⟩
  · rintro ⟨⟩ fr M _ hg
    simp (maxDischargeDepth := 30) only [amL, args0, Nat.reduceEqDiff, reduceCtorEq, ↓reduceIte, Nat.reduceAdd, resultsA, results1, Int.reduceNeg, splice, Nat.reduceLeDiff, part, fillA, fillE, Nat.reduceLT]
    exact hg0.trans hg
end Go.AM.G
