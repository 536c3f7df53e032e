/- Part of the proof: contracts of functions of the given program on an abstract machine. -/
import Derived.Test.YtdfbfcohindpnaaEphemD
set_option linter.unusedVariables false
set_option linter.unusedSimpArgs false
set_option maxRecDepth 100000
namespace Go.AM.G
open Go Go.AM
theorem Clone_spec {m : Mem} {v : V} {l : List Slot} (hv : Sl m v 3 (encs l)) (hl : l.length < 5864062014806) : C S n_slices_Clone_EphSlot [v] m (fun r m' => Grow m m' ∧ Fresh m.length m' r 3 (encs l)) := by
  refine C_body rfl rfl rfl ?_
  unfold slices_Clone_EphSlot
  have hlen : (encs l).length = l.length := by simp
  rcases hv.cases with ⟨rfl, he⟩ | ⟨b, i, len, cap, ex, rfl⟩
  · simp (maxDischargeDepth := 30) only [amL, args0, Nat.reduceEqDiff, reduceCtorEq, ↓reduceIte, Nat.reduceAdd, resultsA, results1, Int.reduceNeg, splice, Nat.reduceLeDiff, part, fillA, fillE, Nat.reduceLT]
    exact ⟨Grow.refl _, Fresh.mk (.inl ⟨rfl, he⟩)⟩
  · simp (maxDischargeDepth := 30) only [amL, args0, Nat.reduceEqDiff, reduceCtorEq, ↓reduceIte, Nat.reduceAdd, resultsA, results1, Int.reduceNeg, splice, Nat.reduceLeDiff, part, fillA, fillE, Nat.reduceLT]
    obtain ⟨v', m', h1, h2, h3⟩ := append_new (zero := [V.int .u8 0, V.int .u64 0, V.int .u64 0]) (bytes := 24) hv rfl (by omega) (by omega)
    refine ⟨v', m', h1, ?_⟩
    exact ⟨h2, h3⟩
theorem Own_spec {m : Mem} {v : V} {l : List Slot} (hv : Sl m v 3 (encs l)) (hl : l.length < 5864062014806) : C S n_ephem_Own [.agg [v]] m (fun r m' => ∃ v', r = .agg [v'] ∧ Grow m m' ∧ Fresh m.length m' v' 3 (encs l)) := by
  refine C_body rfl rfl rfl ?_
  unfold ephem_Own
  have hcell := hv.cell
  simp (maxDischargeDepth := 30) only [hcell, amL, args0, Nat.reduceEqDiff, reduceCtorEq, ↓reduceIte, Nat.reduceAdd, resultsA, results1, Int.reduceNeg, splice, Nat.reduceLeDiff, part, fillA, fillE, Nat.reduceLT]
  refine (Clone_spec hv.app.app hl).mono ?_
  rintro v' m' ⟨⟨g, rfl⟩, hf⟩
  have hc' := hf.1.cell
  simp (maxDischargeDepth := 30) only [aft_mk, hc', amL, args0, Nat.reduceEqDiff, reduceCtorEq, ↓reduceIte, Nat.reduceAdd, resultsA, results1, Int.reduceNeg, splice, Nat.reduceLeDiff, part, fillA, fillE, Nat.reduceLT]
  exact ⟨v', rfl, (Grow.refl _).app.app.app, hf.swap.weaken (by simp)⟩
theorem Copy_spec {m : Mem} {v : V} {l : List Slot} (hv : Sl m v 3 (encs l)) (hl : l.length < 5864062014806) : C S n_ref10_Copy [.agg [v]] m (fun r m' => ∃ v', r = .agg [v'] ∧ Grow m m' ∧ Fresh m.length m' v' 3 (encs l)) := by
  refine C_body rfl rfl rfl ?_
  unfold ref10_Copy
  have hcell := hv.cell
  have hlen : (encs l).length = l.length := by simp
  obtain ⟨v', m', h1, ⟨g, h2⟩, h3⟩ := append_new (zero := [V.int .u8 0, V.int .u64 0, V.int .u64 0]) (bytes := 24) (hv.app (g := [Blk.cells true [[v]]]) |>.app (g := [Blk.cells true [[V.nils]]])) rfl (by omega) (by omega)
  simp (maxDischargeDepth := 30) only [hcell, amL, args0, Nat.reduceEqDiff, reduceCtorEq, ↓reduceIte, Nat.reduceAdd, resultsA, results1, Int.reduceNeg, splice, Nat.reduceLeDiff, part, fillA, fillE, Nat.reduceLT]
  subst h2
  have hc' := h3.1.cell
  refine ⟨v', _, h1, ?_⟩
  simp (maxDischargeDepth := 30) only [hc', amL, args0, Nat.reduceEqDiff, reduceCtorEq, ↓reduceIte, Nat.reduceAdd, resultsA, results1, Int.reduceNeg, splice, Nat.reduceLeDiff, part, fillA, fillE, Nat.reduceLT]
  exact ⟨v', rfl, (Grow.refl _).app.app.app, h3.swap.weaken (by simp)⟩
/-- what Same tells: '==' slot by slot. -/
theorem Same_spec {m : Mem} {u v : V} {l k : List Slot} (hu : Sl m u 3 (encs l)) (hv : Sl m v 3 (encs k)) (hl : l.length < 5864062014806) : C S n_ref10_Same [.agg [u], .agg [v]] m (fun r m' => r = .bool (decide (l = k)) ∧ Grow m m') := by
  refine C_body rfl rfl rfl ?_
  unfold ref10_Same
  have hc1 := hu.cell
  have hc2 := hv.cell
  have hlen1 : (encs l).length = l.length := by simp
  have hlen2 : (encs k).length = k.length := by simp
  simp (maxDischargeDepth := 30) only [hc1, hc2, hu.len, hv.len, hlen1, hlen2, amL, args0, Nat.reduceEqDiff, reduceCtorEq, ↓reduceIte, Nat.reduceAdd, resultsA, results1, Int.reduceNeg, splice, Nat.reduceLeDiff, part, fillA, fillE, Nat.reduceLT]
  first | (refine O_split (by simp only [put_apply, Nat.reduceEqDiff, ↓reduceIte, reduceCtorEq]; rfl) (fun h0 => ?_) (fun h0 => ?_) <;> simp only [decide_eq_true_eq, decide_eq_false_iff_not, Decidable.not_not, Bool.and_eq_true, Bool.not_eq_true', Bool.not_eq_false'] at h0) | (refine W_split (by simp only [get_t, put_apply, Nat.reduceEqDiff, ↓reduceIte, reduceCtorEq]; rfl) (fun h0 => ?_) (fun h0 => ?_) <;> simp only [decide_eq_true_eq, decide_eq_false_iff_not, Decidable.not_not, Bool.and_eq_true, Bool.not_eq_true', Bool.not_eq_false'] at h0)
  · have : ¬ l = k := by rintro rfl; exact h0 rfl
    simp (maxDischargeDepth := 30) only [this, amL, args0, Nat.reduceEqDiff, reduceCtorEq, ↓reduceIte, Nat.reduceAdd, resultsA, results1, Int.reduceNeg, splice, Nat.reduceLeDiff, part, fillA, fillE, Nat.reduceLT]
    exact (Grow.refl _).app.app
  have h00 : l.length = k.length := by omega
  simp (maxDischargeDepth := 30) only [hc1, hc2, hu.len, hv.len, hlen1, hlen2, amL, args0, Nat.reduceEqDiff, reduceCtorEq, ↓reduceIte, Nat.reduceAdd, resultsA, results1, Int.reduceNeg, splice, Nat.reduceLeDiff, part, fillA, fillE, Nat.reduceLT]
  generalize hM0 : m ++ [Blk.cells true [[u]]] ++ [Blk.cells true [[v]]] = M0
  generalize hp : V.ptr m.length 0 0 = p
  generalize hq : V.ptr (List.length (m ++ [Blk.cells true [[u]]])) 0 0 = q
  have hg0 : Grow m M0 := by rw [← hM0]; exact (Grow.refl _).app.app
  have hp0 : loadV M0 none p = some u := by rw [← hM0, ← hp]; simp (maxDischargeDepth := 30) only [amL, args0, Nat.reduceEqDiff, reduceCtorEq, ↓reduceIte, Nat.reduceAdd, resultsA, results1, Int.reduceNeg, splice, Nat.reduceLeDiff, part, fillA, fillE, Nat.reduceLT]
  have hq0 : loadV M0 none q = some v := by rw [← hM0, ← hq]; simp (maxDischargeDepth := 30) only [amL, args0, Nat.reduceEqDiff, reduceCtorEq, ↓reduceIte, Nat.reduceAdd, resultsA, results1, Int.reduceNeg, splice, Nat.reduceLeDiff, part, fillA, fillE, Nat.reduceLT]
  have hpp : asPtr 0 p = some p := by rw [← hp]; rfl
  have hqq : asPtr 0 q = some q := by rw [← hq]; rfl
  clear hM0 hp hq
  let I := fun (n : Nat) (fr : Frame) (M : Mem) => ∃ i : Nat, i ≤ l.length ∧ n = l.length - i ∧ fr 2 = p ∧ fr 3 = q ∧ fr 15 = .int .i64 l.length ∧ fr 16 = .int .i64 i ∧ (l.drop i = k.drop i ↔ l = k) ∧ M = M0
  refine W_loop I ?_ l.length ?_
  · rintro n fr M ⟨i, hi, rfl, f2, f3, f15, f16, hd, rfl⟩
    unfold ref10_Same_l0
    simp (maxDischargeDepth := 30) only [f2, f3, f15, f16, amL, args0, Nat.reduceEqDiff, reduceCtorEq, ↓reduceIte, Nat.reduceAdd, resultsA, results1, Int.reduceNeg, splice, Nat.reduceLeDiff, part, fillA, fillE, Nat.reduceLT]
    first | (refine O_split (by simp only [put_apply, Nat.reduceEqDiff, ↓reduceIte, reduceCtorEq]; rfl) (fun h => ?_) (fun h => ?_) <;> simp only [decide_eq_true_eq, decide_eq_false_iff_not, Decidable.not_not, Bool.and_eq_true, Bool.not_eq_true', Bool.not_eq_false'] at h) | (refine W_split (by simp only [get_t, put_apply, Nat.reduceEqDiff, ↓reduceIte, reduceCtorEq]; rfl) (fun h => ?_) (fun h => ?_) <;> simp only [decide_eq_true_eq, decide_eq_false_iff_not, Decidable.not_not, Bool.and_eq_true, Bool.not_eq_true', Bool.not_eq_false'] at h)
    · have hil : i < l.length := by omega
      obtain ⟨s, hs⟩ : ∃ s, l[i]? = some s := ⟨_, List.getElem?_eq_getElem hil⟩
      obtain ⟨t, ht⟩ : ∃ t, k[i]? = some t := ⟨_, List.getElem?_eq_getElem (by omega)⟩
      have hsl := hu.grow hg0
      have htl := hv.grow hg0
      have ix := hsl.index (ki := .i64) (n := i) (by omega) (by omega)
      have ld := fun o k => hsl.load (o := o) (k := k) (encs_get hs)
      have ix2 := htl.index (ki := .i64) (n := i) (by omega) (by omega)
      have ld2 := fun o k => htl.load (o := o) (k := k) (encs_get ht)
      simp only [Int.toNat_natCast, enc] at ix ld ix2 ld2
      have w1 : IntKind.i64.wrap ((i : Int) + 1) = ((i + 1 : Nat) : Int) := by rw [wrap_i64] <;> omega
      have hdd : (l.drop i = k.drop i) ↔ (s = t ∧ l.drop (i + 1) = k.drop (i + 1)) := by
        obtain ⟨a1, e1⟩ := List.getElem?_eq_some_iff.1 hs
        obtain ⟨a2, e2⟩ := List.getElem?_eq_some_iff.1 ht
        rw [List.drop_eq_getElem_cons a1, List.drop_eq_getElem_cons a2, e1, e2, List.cons.injEq]
      by_cases hst : s = t
      · subst hst
        have hd' : l.drop (i + 1) = k.drop (i + 1) ↔ l = k := by rw [← hd, hdd]; simp
        simp (maxDischargeDepth := 30) only [h, f2, f3, f15, f16, hpp, hqq, hp0, hq0, ix, ld, ix2, ld2, w1, List.replicate_zero, amL, args0, Nat.reduceEqDiff, reduceCtorEq, ↓reduceIte, Nat.reduceAdd, resultsA, results1, Int.reduceNeg, splice, Nat.reduceLeDiff, part, fillA, fillE, Nat.reduceLT]
        refine ⟨_, ?_, i + 1, by omega, rfl, ?_, ?_, ?_, ?_, hd', rfl⟩
        · omega
        all_goals simp (maxDischargeDepth := 30) only [f2, f3, f15, f16, amL, args0, Nat.reduceEqDiff, reduceCtorEq, ↓reduceIte, Nat.reduceAdd, resultsA, results1, Int.reduceNeg, splice, Nat.reduceLeDiff, part, fillA, fillE, Nat.reduceLT]
      · have hne : ¬ l = k := by rw [← hd, hdd]; exact fun e => hst e.1
        have c6 : (decide (s.st = t.st) && (decide (s.key = t.key) && decide (s.val = t.val))) = false := by
          cases s; cases t
          simp only [Slot.mk.injEq] at hst
          simpa using hst
        simp (maxDischargeDepth := 30) only [h, f2, f3, f15, f16, hpp, hqq, hp0, hq0, ix, ld, ix2, ld2, w1, List.replicate_zero, c6, hne, amL, args0, Nat.reduceEqDiff, reduceCtorEq, ↓reduceIte, Nat.reduceAdd, resultsA, results1, Int.reduceNeg, splice, Nat.reduceLeDiff, part, fillA, fillE, Nat.reduceLT]
        exact hg0
    · have : i = l.length := by omega
      subst this
      rw [List.drop_length, h00, List.drop_length] at hd
      have : l = k := hd.1 rfl
      simp (maxDischargeDepth := 30) only [h, f2, f3, f15, f16, this, amL, args0, Nat.reduceEqDiff, reduceCtorEq, ↓reduceIte, Nat.reduceAdd, resultsA, results1, Int.reduceNeg, splice, Nat.reduceLeDiff, part, fillA, fillE, Nat.reduceLT]
      exact hg0
  · exact ⟨0, by omega, rfl, by simp (maxDischargeDepth := 30) only [amL, args0, Nat.reduceEqDiff, reduceCtorEq, ↓reduceIte, Nat.reduceAdd, resultsA, results1, Int.reduceNeg, splice, Nat.reduceLeDiff, part, fillA, fillE, Nat.reduceLT], by simp (maxDischargeDepth := 30) only [amL, args0, Nat.reduceEqDiff, reduceCtorEq, ↓reduceIte, Nat.reduceAdd, resultsA, results1, Int.reduceNeg, splice, Nat.reduceLeDiff, part, fillA, fillE, Nat.reduceLT], by simp (maxDischargeDepth := 30) only [amL, args0, Nat.reduceEqDiff, reduceCtorEq, ↓reduceIte, Nat.reduceAdd, resultsA, results1, Int.reduceNeg, splice, Nat.reduceLeDiff, part, fillA, fillE, Nat.reduceLT], by simp (maxDischargeDepth := 30) only [amL, args0, Nat.reduceEqDiff, reduceCtorEq, ↓reduceIte, Nat.reduceAdd, resultsA, results1, Int.reduceNeg, splice, Nat.reduceLeDiff, part, fillA, fillE, Nat.reduceLT]; rfl, by simp, rfl⟩
end Go.AM.G
