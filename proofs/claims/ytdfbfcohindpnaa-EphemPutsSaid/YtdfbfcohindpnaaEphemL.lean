/- Part of the proof: contracts of functions of the given program on an abstract machine. -/
import Derived.Test.YtdfbfcohindpnaaEphemK
set_option linter.unusedVariables false
set_option linter.unusedSimpArgs false
set_option maxRecDepth 100000
namespace Go.AM.G
open Go Go.AM
theorem valid_len {l : List Slot} (h : validB l = true) : l.length ≤ 64 := by
  rcases valid_cases h with h | ⟨h, _⟩
  · omega
  · have := h.le; omega
theorem full_tail {m M : Mem} {B : Nat} {u : V} {t : List Slot} (more : Int) (hB : M[B]? = some (.cells true [[u]])) (hu : Sl M u 3 (encs t)) (hg : Grow m M) (hval : validB t = true) (hc : cnt 1 t ≤ 31) :
    C S n_ephem_Put [.agg [u], .int .u64 more, .int .u64 1] M (fun r m' => ∃ v', (r = .tup [.agg [v'], .int .i64 0] ∨ more = 0 ∧ ∃ e : Int, r = .tup [.agg [v'], .int .i64 e] ∧ e ≠ 0) ∧ v'.isCell = true ∧ Grow m m') := by
  have hlen := valid_len hval
  refine (Put_spec more 1 hu (by omega)).mono ?_
  rintro _ _ ⟨v', rfl, ⟨g, rfl⟩, hv'⟩
  refine ⟨v', ?_, hv'.1.cell, hg.app⟩
  by_cases hm : more = 0
  · have : putL t more 1 = (t, 7) := by simp [putL, hval, hm]
    rw [this]
    exact .inr ⟨hm, _, rfl, show (7 : Int) ≠ 0 by decide⟩
  · rcases putL_valid (v := 1) hval hm with ⟨p2, _⟩ | ⟨_, _, h⟩
    · rw [p2]; exact .inl rfl
    · have := sizeL_cases (cnt 1 t); omega
theorem full_spec {m : Mem} {w : V} {keys : List Int} (more : Int) (hw : Sl m w 1 (ints keys)) (hkl : keys.length < 2 ^ 60) : C S n_law10_EphemFull [w, .int .u64 more] m (fun r m' => r = .bool true ∧ Grow m m') := by
  refine C_body rfl rfl rfl ?_
  unfold law10_EphemFull
  simp (maxDischargeDepth := 30) only [amL, args0, Nat.reduceEqDiff, reduceCtorEq, ↓reduceIte, Nat.reduceAdd, resultsA, results1, Int.reduceNeg, splice, Nat.reduceLeDiff, part, fillA, fillE, Nat.reduceLT]
  refine lives_spec.mono ?_
  rintro _ _ ⟨rfl, rfl⟩
  have hlk : (ints keys).length = keys.length := by simp
  simp (maxDischargeDepth := 30) only [aft_mk, hw.len, hlk, amL, args0, Nat.reduceEqDiff, reduceCtorEq, ↓reduceIte, Nat.reduceAdd, resultsA, results1, Int.reduceNeg, splice, Nat.reduceLeDiff, part, fillA, fillE, Nat.reduceLT]
  let I := fun (n : Nat) (fr : Frame) (M : Mem) => ∃ (i : Nat) (u : V) (t : List Slot), i ≤ keys.length ∧ i ≤ 31 ∧ n = keys.length - i ∧ fr 1 = .int .u64 more ∧ fr 5 = .ptr m.length 0 0 ∧ fr 15 = w ∧ fr 16 = .int .i64 keys.length ∧ fr 17 = .int .i64 i ∧ Grow m M ∧ M[m.length]? = some (.cells true [[u]]) ∧ Sl M u 3 (encs t) ∧ validB t = true ∧ cnt 1 t ≤ i
  refine W_loop I ?_ keys.length ?_
  · rintro n fr M ⟨i, u, t, hi, hi31, rfl, f1, f5, f15, f16, f17, hg, hB, hu, hval, hc⟩
    have huc := hu.cell
    unfold law10_EphemFull_l0
    simp (maxDischargeDepth := 30) only [f1, f5, f15, f16, f17, amL, args0, Nat.reduceEqDiff, reduceCtorEq, ↓reduceIte, Nat.reduceAdd, resultsA, results1, Int.reduceNeg, splice, Nat.reduceLeDiff, part, fillA, fillE, Nat.reduceLT]
    first | (refine O_split (by simp only [put_apply, Nat.reduceEqDiff, ↓reduceIte, reduceCtorEq]; rfl) (fun h => ?_) (fun h => ?_) <;> simp only [decide_eq_true_eq, decide_eq_false_iff_not, Decidable.not_not, Bool.and_eq_true, Bool.not_eq_true', Bool.not_eq_false'] at h) | (refine W_split (by simp only [get_t, put_apply, Nat.reduceEqDiff, ↓reduceIte, reduceCtorEq]; rfl) (fun h => ?_) (fun h => ?_) <;> simp only [decide_eq_true_eq, decide_eq_false_iff_not, Decidable.not_not, Bool.and_eq_true, Bool.not_eq_true', Bool.not_eq_false'] at h)
    · have hil : i < keys.length := by omega
      obtain ⟨k, hk⟩ : ∃ k, keys[i]? = some k := ⟨_, List.getElem?_eq_getElem hil⟩
      have hwl := hw.grow hg
      have ix := hwl.index (ki := .i64) (n := i) (by omega) (by omega)
      have ld := fun o j => hwl.load (o := o) (k := j) (i := i) (el := [.int .u64 k]) (by simp [hk])
      simp only [Int.toNat_natCast] at ix ld
      by_cases h31 : i = 31
      · have h31' : ((i : Int) = 31) = True := eq_true (by omega)
        simp (maxDischargeDepth := 30) only [h, f1, f5, f15, f16, f17, ix, ld, h31', load_at0 hB, amL, args0, Nat.reduceEqDiff, reduceCtorEq, ↓reduceIte, Nat.reduceAdd, resultsA, results1, Int.reduceNeg, splice, Nat.reduceLeDiff, part, fillA, fillE, Nat.reduceLT]
        refine (full_tail more hB hu hg hval (by omega)).mono ?_
        rintro _ _ ⟨v', h1 | ⟨h0, e, h1, h2⟩, hc', hg'⟩ <;> subst h1
        · simp (maxDischargeDepth := 30) only [aft_mk, hc', amL, args0, Nat.reduceEqDiff, reduceCtorEq, ↓reduceIte, Nat.reduceAdd, resultsA, results1, Int.reduceNeg, splice, Nat.reduceLeDiff, part, fillA, fillE, Nat.reduceLT]; exact hg'.app
        · simp (maxDischargeDepth := 30) only [aft_mk, hc', h0, h2, f1, amL, args0, Nat.reduceEqDiff, reduceCtorEq, ↓reduceIte, Nat.reduceAdd, resultsA, results1, Int.reduceNeg, splice, Nat.reduceLeDiff, part, fillA, fillE, Nat.reduceLT]; exact hg'.app
      have h31' : ¬ (i : Int) = 31 := by omega
      have w1 : IntKind.i64.wrap ((i : Int) + 1) = ((i + 1 : Nat) : Int) := by rw [wrap_i64] <;> omega
      have hlen := valid_len hval
      simp (maxDischargeDepth := 30) only [h, f1, f5, f15, f16, f17, ix, ld, h31', load_at0 hB, amL, args0, Nat.reduceEqDiff, reduceCtorEq, ↓reduceIte, Nat.reduceAdd, resultsA, results1, Int.reduceNeg, splice, Nat.reduceLeDiff, part, fillA, fillE, Nat.reduceLT]
      refine (Put_spec k k hu (by omega)).mono ?_
      rintro _ M1 ⟨v', rfl, hg1, hv'⟩
      have hv1 := hv'.1
      have hvc := hv1.cell
      have hB1 := hg1.get hB
      have hu1 := hu.grow hg1
      have hgm := hg.trans hg1
      have l1 := fun k => load_at0 (M := M1 ++ [Blk.cells true [[v']]]) (b := M1.length) (own := true) (el := [v']) (k := k) (j := 0) (by simp)
      by_cases hk0 : k = 0
      · subst hk0
        have hp : putL t 0 0 = (t, 7) := by simp [putL, hval]
        have c7 : ¬ (7 : Int) = 0 := by omega
        simp (maxDischargeDepth := 30) only [aft_mk, hp, hvc, f1, f5, f15, f16, f17, c7, w1, amL, args0, Nat.reduceEqDiff, reduceCtorEq, ↓reduceIte, Nat.reduceAdd, resultsA, results1, Int.reduceNeg, splice, Nat.reduceLeDiff, part, fillA, fillE, Nat.reduceLT]
        refine ⟨_, ?_, i + 1, u, t, by omega, by omega, rfl, ?_, ?_, ?_, ?_, ?_, hgm.app, getElem?_grow hB1, hu1.app, hval, by omega⟩
        · omega
        all_goals simp (maxDischargeDepth := 30) only [f1, f5, f15, f16, f17, amL, args0, Nat.reduceEqDiff, reduceCtorEq, ↓reduceIte, Nat.reduceAdd, resultsA, results1, Int.reduceNeg, splice, Nat.reduceLeDiff, part, fillA, fillE, Nat.reduceLT]
      · rcases putL_valid (v := k) hval hk0 with ⟨p2, pv, _, _, pc⟩ | ⟨_, _, hh⟩
        · have hB2 : (M1 ++ [Blk.cells true [[v']]])[m.length]? = some (.cells true [[u]]) := getElem?_grow hB1
          have s1 := store_at0 (x := .agg [v']) (j := 0) (n := 1) hB2 rfl (by simp) (by simp [cells_agg, hvc])
          simp only [cells_agg, splice, List.take_zero, List.nil_append, List.cons_append, List.length_cons, List.length_nil, Nat.zero_add, List.drop_succ_cons, List.drop_nil] at s1
          have hml := (List.getElem?_eq_some_iff.1 hB2).1
          simp (maxDischargeDepth := 30) only [aft_mk, p2, hvc, f1, f5, f15, f16, f17, w1, l1, s1, amL, args0, Nat.reduceEqDiff, reduceCtorEq, ↓reduceIte, Nat.reduceAdd, resultsA, results1, Int.reduceNeg, splice, Nat.reduceLeDiff, part, fillA, fillE, Nat.reduceLT]
          refine ⟨_, ?_, i + 1, v', _, by omega, by omega, rfl, ?_, ?_, ?_, ?_, ?_, hgm.app.set (Nat.le_refl _) _, List.getElem?_set_self hml, ?_, pv, by omega⟩
          · omega
          · simp (maxDischargeDepth := 30) only [f1, amL, args0, Nat.reduceEqDiff, reduceCtorEq, ↓reduceIte, Nat.reduceAdd, resultsA, results1, Int.reduceNeg, splice, Nat.reduceLeDiff, part, fillA, fillE, Nat.reduceLT]
          · simp (maxDischargeDepth := 30) only [f5, amL, args0, Nat.reduceEqDiff, reduceCtorEq, ↓reduceIte, Nat.reduceAdd, resultsA, results1, Int.reduceNeg, splice, Nat.reduceLeDiff, part, fillA, fillE, Nat.reduceLT]
          · simp (maxDischargeDepth := 30) only [f15, amL, args0, Nat.reduceEqDiff, reduceCtorEq, ↓reduceIte, Nat.reduceAdd, resultsA, results1, Int.reduceNeg, splice, Nat.reduceLeDiff, part, fillA, fillE, Nat.reduceLT]
          · simp (maxDischargeDepth := 30) only [f16, amL, args0, Nat.reduceEqDiff, reduceCtorEq, ↓reduceIte, Nat.reduceAdd, resultsA, results1, Int.reduceNeg, splice, Nat.reduceLeDiff, part, fillA, fillE, Nat.reduceLT]
          · simp (maxDischargeDepth := 30) only [amL, args0, Nat.reduceEqDiff, reduceCtorEq, ↓reduceIte, Nat.reduceAdd, resultsA, results1, Int.reduceNeg, splice, Nat.reduceLeDiff, part, fillA, fillE, Nat.reduceLT]
          · refine (hv1.app).set_other encs_z hB2 (by simp) rfl
        · have := sizeL_cases (cnt 1 t); omega
    · simp (maxDischargeDepth := 30) only [h, f1, f5, f15, f16, f17, load_at0 hB, amL, args0, Nat.reduceEqDiff, reduceCtorEq, ↓reduceIte, Nat.reduceAdd, resultsA, results1, Int.reduceNeg, splice, Nat.reduceLeDiff, part, fillA, fillE, Nat.reduceLT]
      refine (full_tail more hB hu hg hval (by omega)).mono ?_
      rintro _ _ ⟨v', h1 | ⟨h0, e, h1, h2⟩, hc', hg'⟩ <;> subst h1
      · simp (maxDischargeDepth := 30) only [aft_mk, hc', amL, args0, Nat.reduceEqDiff, reduceCtorEq, ↓reduceIte, Nat.reduceAdd, resultsA, results1, Int.reduceNeg, splice, Nat.reduceLeDiff, part, fillA, fillE, Nat.reduceLT]; exact hg'.app
      · simp (maxDischargeDepth := 30) only [aft_mk, hc', h0, h2, f1, amL, args0, Nat.reduceEqDiff, reduceCtorEq, ↓reduceIte, Nat.reduceAdd, resultsA, results1, Int.reduceNeg, splice, Nat.reduceLeDiff, part, fillA, fillE, Nat.reduceLT]; exact hg'.app
  · refine ⟨0, .nils, [], by omega, by omega, rfl, by simp (maxDischargeDepth := 30) only [amL, args0, Nat.reduceEqDiff, reduceCtorEq, ↓reduceIte, Nat.reduceAdd, resultsA, results1, Int.reduceNeg, splice, Nat.reduceLeDiff, part, fillA, fillE, Nat.reduceLT], by simp (maxDischargeDepth := 30) only [amL, args0, Nat.reduceEqDiff, reduceCtorEq, ↓reduceIte, Nat.reduceAdd, resultsA, results1, Int.reduceNeg, splice, Nat.reduceLeDiff, part, fillA, fillE, Nat.reduceLT], by simp (maxDischargeDepth := 30) only [amL, args0, Nat.reduceEqDiff, reduceCtorEq, ↓reduceIte, Nat.reduceAdd, resultsA, results1, Int.reduceNeg, splice, Nat.reduceLeDiff, part, fillA, fillE, Nat.reduceLT], by simp (maxDischargeDepth := 30) only [amL, args0, Nat.reduceEqDiff, reduceCtorEq, ↓reduceIte, Nat.reduceAdd, resultsA, results1, Int.reduceNeg, splice, Nat.reduceLeDiff, part, fillA, fillE, Nat.reduceLT], by simp (maxDischargeDepth := 30) only [amL, args0, Nat.reduceEqDiff, reduceCtorEq, ↓reduceIte, Nat.reduceAdd, resultsA, results1, Int.reduceNeg, splice, Nat.reduceLeDiff, part, fillA, fillE, Nat.reduceLT]; rfl, (Grow.refl _).app, by simp, ⟨rfl, rfl⟩, rfl, by simp [cnt]⟩
end Go.AM.G
