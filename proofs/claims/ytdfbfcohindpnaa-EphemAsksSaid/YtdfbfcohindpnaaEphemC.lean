/- Part of the proof: contracts of functions of the given program on an abstract machine. -/
import Derived.Test.YtdfbfcohindpnaaEphemB
set_option linter.unusedVariables false
set_option linter.unusedSimpArgs false
set_option maxRecDepth 100000
namespace Go.AM.G
open Go Go.AM
def okS (l : List Slot) (i : Nat) (s : Slot) : Bool := decide (s.st < 3) && (if s.st = 1 then decide (s.key ≠ 0) && decide (findL l s.key = (i, true)) else decide (s.key = 0 ∧ s.val = 0))
def okFrom (l : List Slot) : Nat → List Slot → Bool
  | _, [] => true
  | i, s :: r => okS l i s && okFrom l (i + 1) r
def validB (l : List Slot) : Bool := decide (l.length = 0) || (decide (Pow l.length) && (decide (l.length ≤ 4 * cnt 0 l) && okFrom l 0 l))
theorem okFrom_drop {l : List Slot} {i : Nat} {s : Slot} (h : l[i]? = some s) : okFrom l i (l.drop i) = (okS l i s && okFrom l (i + 1) (l.drop (i + 1))) := by
  obtain ⟨hi, e⟩ := List.getElem?_eq_some_iff.1 h
  rw [List.drop_eq_getElem_cons hi, e]
  rfl
theorem Check_spec {m : Mem} {v : V} {l : List Slot} (hv : Sl m v 3 (encs l)) (hlt : l.length < 2 ^ 60) : C S n_ephem_Check [.agg [v]] m (fun r m' => r = .int .i64 (if validB l = true then 0 else 2) ∧ Grow m m') := by
  refine C_body rfl rfl rfl ?_
  unfold ephem_Check
  have hlen : (encs l).length = l.length := by simp
  have hcell := hv.cell
  simp (maxDischargeDepth := 30) only [hv.len, hcell, hlen, amL, args0, Nat.reduceEqDiff, reduceCtorEq, ↓reduceIte, Nat.reduceAdd, resultsA, results1, Int.reduceNeg, splice, Nat.reduceLeDiff, part, fillA, fillE, Nat.reduceLT]
  first | (refine O_split (by simp only [put_apply, Nat.reduceEqDiff, ↓reduceIte, reduceCtorEq]; rfl) (fun h0 => ?_) (fun h0 => ?_) <;> simp only [decide_eq_true_eq, decide_eq_false_iff_not, Decidable.not_not, Bool.and_eq_true, Bool.not_eq_true', Bool.not_eq_false'] at h0) | (refine W_split (by simp only [get_t, put_apply, Nat.reduceEqDiff, ↓reduceIte, reduceCtorEq]; rfl) (fun h0 => ?_) (fun h0 => ?_) <;> simp only [decide_eq_true_eq, decide_eq_false_iff_not, Decidable.not_not, Bool.and_eq_true, Bool.not_eq_true', Bool.not_eq_false'] at h0)
  · have : l.length = 0 := by omega
    simp (maxDischargeDepth := 30) only [validB, this, Bool.true_or, amL, args0, Nat.reduceEqDiff, reduceCtorEq, ↓reduceIte, Nat.reduceAdd, resultsA, results1, Int.reduceNeg, splice, Nat.reduceLeDiff, part, fillA, fillE, Nat.reduceLT]
    exact ((Grow.refl _).app).app
  have h00 : ¬ l.length = 0 := by omega
  have e1 : validB l = (decide (Pow l.length) && (decide (l.length ≤ 4 * cnt 0 l) && okFrom l 0 l)) := by simp [validB, h00]
  simp (maxDischargeDepth := 30) only [amL, args0, Nat.reduceEqDiff, reduceCtorEq, ↓reduceIte, Nat.reduceAdd, resultsA, results1, Int.reduceNeg, splice, Nat.reduceLeDiff, part, fillA, fillE, Nat.reduceLT]
  refine (sized_spec l.length _).mono ?_
  rintro _ _ ⟨rfl, rfl⟩
  simp (maxDischargeDepth := 30) only [aft_mk, amL, args0, Nat.reduceEqDiff, reduceCtorEq, ↓reduceIte, Nat.reduceAdd, resultsA, results1, Int.reduceNeg, splice, Nat.reduceLeDiff, part, fillA, fillE, Nat.reduceLT]
  by_cases hpow : Pow l.length
  · have hpl := hpow.le
    simp (maxDischargeDepth := 30) only [hpow, amL, args0, Nat.reduceEqDiff, reduceCtorEq, ↓reduceIte, Nat.reduceAdd, resultsA, results1, Int.reduceNeg, splice, Nat.reduceLeDiff, part, fillA, fillE, Nat.reduceLT]
    refine (many_spec (v := v) (l := l) 0 (by simp (maxDischargeDepth := 30) only [amL, args0, Nat.reduceEqDiff, reduceCtorEq, ↓reduceIte, Nat.reduceAdd, resultsA, results1, Int.reduceNeg, splice, Nat.reduceLeDiff, part, fillA, fillE, Nat.reduceLT]) (by simp (maxDischargeDepth := 30) only [amL, args0, Nat.reduceEqDiff, reduceCtorEq, ↓reduceIte, Nat.reduceAdd, resultsA, results1, Int.reduceNeg, splice, Nat.reduceLeDiff, part, fillA, fillE, Nat.reduceLT]) hv.app.app (by omega)).mono ?_
    rintro _ _ ⟨rfl, g, rfl⟩
    have hcl := cnt_le 0 l
    have w1 : IntKind.i64.wrap (4 * (cnt 0 l : Int)) = 4 * (cnt 0 l : Int) := by rw [wrap_i64] <;> omega
    simp (maxDischargeDepth := 30) only [aft_mk, w1, hpow, hcell, amL, args0, Nat.reduceEqDiff, reduceCtorEq, ↓reduceIte, Nat.reduceAdd, resultsA, results1, Int.reduceNeg, splice, Nat.reduceLeDiff, part, fillA, fillE, Nat.reduceLT]
    first | (refine O_split (by simp only [put_apply, Nat.reduceEqDiff, ↓reduceIte, reduceCtorEq]; rfl) (fun h1 => ?_) (fun h1 => ?_) <;> simp only [decide_eq_true_eq, decide_eq_false_iff_not, Decidable.not_not, Bool.and_eq_true, Bool.not_eq_true', Bool.not_eq_false'] at h1) | (refine W_split (by simp only [get_t, put_apply, Nat.reduceEqDiff, ↓reduceIte, reduceCtorEq]; rfl) (fun h1 => ?_) (fun h1 => ?_) <;> simp only [decide_eq_true_eq, decide_eq_false_iff_not, Decidable.not_not, Bool.and_eq_true, Bool.not_eq_true', Bool.not_eq_false'] at h1)
    · have : ¬ l.length ≤ 4 * cnt 0 l := by omega
      simp (maxDischargeDepth := 30) only [e1, this, Bool.false_and, Bool.and_false, amL, args0, Nat.reduceEqDiff, reduceCtorEq, ↓reduceIte, Nat.reduceAdd, resultsA, results1, Int.reduceNeg, splice, Nat.reduceLeDiff, part, fillA, fillE, Nat.reduceLT]
      exact ((Grow.refl _).app).app.app
    have h4 : l.length ≤ 4 * cnt 0 l := by omega
    have e2 : validB l = okFrom l 0 l := by simp [e1, hpow, h4]
    simp (maxDischargeDepth := 30) only [hv.len, hcell, hlen, amL, args0, Nat.reduceEqDiff, reduceCtorEq, ↓reduceIte, Nat.reduceAdd, resultsA, results1, Int.reduceNeg, splice, Nat.reduceLeDiff, part, fillA, fillE, Nat.reduceLT]
    generalize hM0 : m ++ [Blk.cells true [[v]]] ++ [Blk.cells true [[v]]] ++ g = M0
    generalize hp : V.ptr (List.length (m ++ [Blk.cells true [[v]]])) 0 0 = p
    have hg0 : Grow m M0 := by rw [← hM0]; exact ((Grow.refl _).app).app.app
    have hp0 : loadV M0 none p = some v := by rw [← hM0, ← hp]; simp (maxDischargeDepth := 30) only [amL, args0, Nat.reduceEqDiff, reduceCtorEq, ↓reduceIte, Nat.reduceAdd, resultsA, results1, Int.reduceNeg, splice, Nat.reduceLeDiff, part, fillA, fillE, Nat.reduceLT]
    have hpp : asPtr 0 p = some p := by rw [← hp]; rfl
    have hcnt : 0 < cnt 0 l := by omega
    clear hM0 hp
    let I := fun (k : Nat) (fr : Frame) (M : Mem) => ∃ i : Nat, i ≤ l.length ∧ k = l.length - i ∧ fr 3 = p ∧ fr 28 = v ∧ fr 29 = .int .i64 l.length ∧ fr 30 = .int .i64 i ∧ okFrom l i (l.drop i) = okFrom l 0 l ∧ Grow M0 M
    refine W_loop I ?_ l.length ?_
    · rintro k fr M ⟨i, hi, rfl, f3, f28, f29, f30, hok, hg⟩
      unfold ephem_Check_l0
      simp (maxDischargeDepth := 30) only [f3, f28, f29, f30, amL, args0, Nat.reduceEqDiff, reduceCtorEq, ↓reduceIte, Nat.reduceAdd, resultsA, results1, Int.reduceNeg, splice, Nat.reduceLeDiff, part, fillA, fillE, Nat.reduceLT]
      first | (refine O_split (by simp only [put_apply, Nat.reduceEqDiff, ↓reduceIte, reduceCtorEq]; rfl) (fun h => ?_) (fun h => ?_) <;> simp only [decide_eq_true_eq, decide_eq_false_iff_not, Decidable.not_not, Bool.and_eq_true, Bool.not_eq_true', Bool.not_eq_false'] at h) | (refine W_split (by simp only [get_t, put_apply, Nat.reduceEqDiff, ↓reduceIte, reduceCtorEq]; rfl) (fun h => ?_) (fun h => ?_) <;> simp only [decide_eq_true_eq, decide_eq_false_iff_not, Decidable.not_not, Bool.and_eq_true, Bool.not_eq_true', Bool.not_eq_false'] at h)
      · have hil : i < l.length := by omega
        obtain ⟨s, hs⟩ : ∃ s, l[i]? = some s := ⟨_, List.getElem?_eq_getElem hil⟩
        have hsl := (hv.grow hg0).grow hg
        have ix := hsl.index (ki := .i64) (n := i) (by omega) (by omega)
        have ld := fun o k => hsl.load (o := o) (k := k) (encs_get hs)
        simp only [Int.toNat_natCast, enc] at ix ld
        have w1 : IntKind.i64.wrap ((i : Int) + 1) = ((i + 1 : Nat) : Int) := by rw [wrap_i64] <;> omega
        rw [okFrom_drop hs] at hok
        have fin : ∀ (fr' : Frame), fr' 3 = p → fr' 28 = v → fr' 29 = .int .i64 l.length → fr' 30 = .int .i64 (i + 1 : Nat) → okS l i s = true → ∀ M' : Mem, Grow M0 M' → ∃ j, j < l.length - i ∧ I j fr' M' := fun fr' a3 a28 a29 a30 a M' hM' => ⟨l.length - (i + 1), by omega, i + 1, by omega, rfl, a3, a28, a29, a30, by rw [← hok, a, Bool.true_and], hM'⟩
        by_cases c1 : 3 ≤ s.st
        · have : okS l i s = false := by simp [okS]; omega
          rw [this, Bool.false_and] at hok
          simp (maxDischargeDepth := 30) only [h, f3, f28, f29, f30, ix, ld, c1, e2, ← hok, amL, args0, Nat.reduceEqDiff, reduceCtorEq, ↓reduceIte, Nat.reduceAdd, resultsA, results1, Int.reduceNeg, splice, Nat.reduceLeDiff, part, fillA, fillE, Nat.reduceLT]
          exact hg0.trans hg.app
        by_cases c2 : s.st = 1
        · have c3 : ¬ ((3 : Int) ≤ 1) := by omega
          simp (maxDischargeDepth := 30) only [h, f3, f28, f29, f30, ix, ld, c2, c3, amL, args0, Nat.reduceEqDiff, reduceCtorEq, ↓reduceIte, Nat.reduceAdd, resultsA, results1, Int.reduceNeg, splice, Nat.reduceLeDiff, part, fillA, fillE, Nat.reduceLT]
          refine (find_spec (v := v) (l := l) s.key (loadV_some (loadV_grow hp0 hg)) hpp hsl.app (.inr ⟨hpow, hcnt⟩)).mono ?_
          rintro _ _ ⟨rfl, g', rfl⟩
          simp (maxDischargeDepth := 30) only [aft_mk, amL, args0, Nat.reduceEqDiff, reduceCtorEq, ↓reduceIte, Nat.reduceAdd, resultsA, results1, Int.reduceNeg, splice, Nat.reduceLeDiff, part, fillA, fillE, Nat.reduceLT]
          by_cases k0 : s.key = 0
          · have : okS l i s = false := by simp [okS, c2, k0]
            rw [this, Bool.false_and] at hok
            simp (maxDischargeDepth := 30) only [k0, e2, ← hok, amL, args0, Nat.reduceEqDiff, reduceCtorEq, ↓reduceIte, Nat.reduceAdd, resultsA, results1, Int.reduceNeg, splice, Nat.reduceLeDiff, part, fillA, fillE, Nat.reduceLT]
            exact hg0.trans hg.app.app
          by_cases k1 : (findL l s.key).2 = true
          · by_cases k2 : (findL l s.key).1 = i
            · have hok1 : okS l i s = true := by simp [okS, c2, k0, Prod.ext_iff, k1, k2]
              have k3 : ((findL l s.key).1 : Int) = i := by omega
              simp (maxDischargeDepth := 30) only [k0, k1, k3, f3, f28, f29, f30, w1, amL, args0, Nat.reduceEqDiff, reduceCtorEq, ↓reduceIte, Nat.reduceAdd, resultsA, results1, Int.reduceNeg, splice, Nat.reduceLeDiff, part, fillA, fillE, Nat.reduceLT]
              refine fin _ ?_ ?_ ?_ ?_ hok1 _ hg.app.app
              all_goals simp (maxDischargeDepth := 30) only [f3, f28, f29, f30, amL, args0, Nat.reduceEqDiff, reduceCtorEq, ↓reduceIte, Nat.reduceAdd, resultsA, results1, Int.reduceNeg, splice, Nat.reduceLeDiff, part, fillA, fillE, Nat.reduceLT]
            · have : okS l i s = false := by simp [okS, c2, Prod.ext_iff, k2]
              rw [this, Bool.false_and] at hok
              have k3 : ¬ ((findL l s.key).1 : Int) = i := by omega
              simp (maxDischargeDepth := 30) only [k0, k1, k3, f3, f28, f29, f30, e2, ← hok, amL, args0, Nat.reduceEqDiff, reduceCtorEq, ↓reduceIte, Nat.reduceAdd, resultsA, results1, Int.reduceNeg, splice, Nat.reduceLeDiff, part, fillA, fillE, Nat.reduceLT]
              exact hg0.trans hg.app.app
          · have : okS l i s = false := by simp [okS, c2, Prod.ext_iff, k1]
            rw [this, Bool.false_and] at hok
            simp (maxDischargeDepth := 30) only [k0, k1, f3, f28, f29, f30, e2, ← hok, amL, args0, Nat.reduceEqDiff, reduceCtorEq, ↓reduceIte, Nat.reduceAdd, resultsA, results1, Int.reduceNeg, splice, Nat.reduceLeDiff, part, fillA, fillE, Nat.reduceLT]
            exact hg0.trans hg.app.app
        · by_cases c3 : s.key = 0 ∧ s.val = 0
          · obtain ⟨c4, c5⟩ := c3
            have hok1 : okS l i s = true := by simp [okS, c2, c4, c5]; omega
            simp (maxDischargeDepth := 30) only [h, f3, f28, f29, f30, ix, ld, c1, c2, c4, c5, w1, amL, args0, Nat.reduceEqDiff, reduceCtorEq, ↓reduceIte, Nat.reduceAdd, resultsA, results1, Int.reduceNeg, splice, Nat.reduceLeDiff, part, fillA, fillE, Nat.reduceLT]
            refine fin _ ?_ ?_ ?_ ?_ hok1 _ hg.app
            all_goals simp (maxDischargeDepth := 30) only [f3, f28, f29, f30, amL, args0, Nat.reduceEqDiff, reduceCtorEq, ↓reduceIte, Nat.reduceAdd, resultsA, results1, Int.reduceNeg, splice, Nat.reduceLeDiff, part, fillA, fillE, Nat.reduceLT]
          · have : okS l i s = false := by simp [okS, c2]; intro _ a b; exact c3 ⟨a, b⟩
            rw [this, Bool.false_and] at hok
            have c6 : (decide (s.key = 0) && decide (s.val = 0)) = false := by simpa using c3
            simp (maxDischargeDepth := 30) only [h, f3, f28, f29, f30, ix, ld, c1, c2, c6, e2, ← hok, amL, args0, Nat.reduceEqDiff, reduceCtorEq, ↓reduceIte, Nat.reduceAdd, resultsA, results1, Int.reduceNeg, splice, Nat.reduceLeDiff, part, fillA, fillE, Nat.reduceLT]
            exact hg0.trans hg.app
      · have : i = l.length := by omega
        subst this
        rw [List.drop_length] at hok
        simp (maxDischargeDepth := 30) only [h, f3, f28, f29, f30, e2, ← hok, okFrom, amL, args0, Nat.reduceEqDiff, reduceCtorEq, ↓reduceIte, Nat.reduceAdd, resultsA, results1, Int.reduceNeg, splice, Nat.reduceLeDiff, part, fillA, fillE, Nat.reduceLT]
        exact hg0.trans hg
    · exact ⟨0, by omega, rfl, by simp (maxDischargeDepth := 30) only [amL, args0, Nat.reduceEqDiff, reduceCtorEq, ↓reduceIte, Nat.reduceAdd, resultsA, results1, Int.reduceNeg, splice, Nat.reduceLeDiff, part, fillA, fillE, Nat.reduceLT], by simp (maxDischargeDepth := 30) only [amL, args0, Nat.reduceEqDiff, reduceCtorEq, ↓reduceIte, Nat.reduceAdd, resultsA, results1, Int.reduceNeg, splice, Nat.reduceLeDiff, part, fillA, fillE, Nat.reduceLT], by simp (maxDischargeDepth := 30) only [amL, args0, Nat.reduceEqDiff, reduceCtorEq, ↓reduceIte, Nat.reduceAdd, resultsA, results1, Int.reduceNeg, splice, Nat.reduceLeDiff, part, fillA, fillE, Nat.reduceLT], by simp (maxDischargeDepth := 30) only [amL, args0, Nat.reduceEqDiff, reduceCtorEq, ↓reduceIte, Nat.reduceAdd, resultsA, results1, Int.reduceNeg, splice, Nat.reduceLeDiff, part, fillA, fillE, Nat.reduceLT]; rfl, by simp, Grow.refl _⟩
  · simp (maxDischargeDepth := 30) only [hpow, e1, Bool.false_and, amL, args0, Nat.reduceEqDiff, reduceCtorEq, ↓reduceIte, Nat.reduceAdd, resultsA, results1, Int.reduceNeg, splice, Nat.reduceLeDiff, part, fillA, fillE, Nat.reduceLT]
    exact ((Grow.refl _).app).app
end Go.AM.G
