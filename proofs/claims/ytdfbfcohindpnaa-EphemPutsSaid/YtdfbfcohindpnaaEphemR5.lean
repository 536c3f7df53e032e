/- Part of the proof: contracts of functions of the given program on an abstract machine. -/
import Derived.Test.YtdfbfcohindpnaaEphemR4
set_option linter.unusedVariables false
set_option linter.unusedSimpArgs false
set_option maxRecDepth 100000
namespace Go.AM.G
open Go Go.AM
theorem refPut_spec {m : Mem} {v : V} {l : List Slot} (key val : Int) (hv : Sl m v 3 (encs l)) (hl : l.length < 5864062014806) (hst0 : ∀ s ∈ l, 0 ≤ s.st) : C S n_ref10_Put [.agg [v], .int .u64 key, .int .u64 val] m (fun r m' => ∃ v', r = .tup [.agg [v'], .int .i64 (putL l key val).2] ∧ Grow m m' ∧ Sl m' v' 3 (encs (putL l key val).1)) := by
  refine C_body rfl rfl rfl ?_
  unfold ref10_Put
  have hcell := hv.cell
  have hlen : (encs l).length = l.length := by simp
  simp (maxDischargeDepth := 30) only [hcell, amL, args0, Nat.reduceEqDiff, reduceCtorEq, ↓reduceIte, Nat.reduceAdd, resultsA, results1, Int.reduceNeg, splice, Nat.reduceLeDiff, part, fillA, fillE, Nat.reduceLT]
  refine (refCheck_spec hv.app.app (by omega)).mono ?_
  rintro _ M1 ⟨rfl, hg1⟩
  have hT1 : M1[m.length]? = some (.cells true [[v]]) := hg1.get (getElem?_grow (by simp))
  have hxl : (m ++ [Blk.cells true [[v]]]).length = m.length + 1 := by simp
  have hR1 : M1[m.length + 1]? = some (.cells true [[V.nils]]) := hg1.get (by rw [← hxl]; exact List.getElem?_concat_length)
  have hgm1 : Grow m M1 := (Grow.refl m).app.app.trans hg1
  by_cases hval : validB l = true
  · have h64 := valid_len hval
    have hk3 := K3_valid hval hst0
    have c00 : ¬ ¬ (0 : Int) = 0 := by omega
    simp (maxDischargeDepth := 30) only [aft_mk, hval, c00, load_at0 hT1, amL, args0, Nat.reduceEqDiff, reduceCtorEq, ↓reduceIte, Nat.reduceAdd, resultsA, results1, Int.reduceNeg, splice, Nat.reduceLeDiff, part, fillA, fillE, Nat.reduceLT]
    refine (Copy_spec (hv.grow hgm1) hl).mono ?_
    rintro _ M2 ⟨u, rfl, hg2, hu⟩
    have huc := hu.1.cell
    have hT2 := hg2.get hT1
    have hR2 := hg2.get hR1
    have hgm2 := hgm1.trans hg2
    have hT2l := (List.getElem?_eq_some_iff.1 hT2).1
    have hR2l := (List.getElem?_eq_some_iff.1 hR2).1
    have hM1l : m.length + 2 ≤ M1.length := by have := (List.getElem?_eq_some_iff.1 hR1).1; omega
    have s0 := store_at0 (x := .agg [u]) (j := 0) (n := 1) hT2 rfl (by simp) (by simp [cells_agg, huc])
    simp only [cells_agg, splice, List.take_zero, List.nil_append, List.cons_append, List.length_cons, List.length_nil, Nat.zero_add, List.drop_succ_cons, List.drop_nil] at s0
    simp (maxDischargeDepth := 30) only [aft_mk, huc, s0, hxl, amL, args0, Nat.reduceEqDiff, reduceCtorEq, ↓reduceIte, Nat.reduceAdd, resultsA, results1, Int.reduceNeg, splice, Nat.reduceLeDiff, part, fillA, fillE, Nat.reduceLT]
    have hu3 : Fresh M1.length (M2.set m.length (.cells true [[u]])) u 3 (encs l) := hu.to (fun b x hb hx => by rw [List.getElem?_set_ne (by omega)]; exact hx)
    have hT3 : (M2.set m.length (.cells true [[u]]))[m.length]? = some (.cells true [[u]]) := List.getElem?_set_self hT2l
    have hR3 : (M2.set m.length (.cells true [[u]]))[m.length + 1]? = some (.cells true [[V.nils]]) := by rw [List.getElem?_set_ne (by omega)]; exact hR2
    have hgm3 : Grow m (M2.set m.length (.cells true [[u]])) := hgm2.set (Nat.le_refl _) _
    generalize M2.set m.length (.cells true [[u]]) = M3 at hu3 hT3 hR3 hgm3
    have hR3l := (List.getElem?_eq_some_iff.1 hR3).1
    by_cases hk : key = 0
    · have hk' : (key = 0) = True := eq_true hk
      have hput : putL l key val = (l, 7) := by simp [putL, hval, hk]
      have s1 := store_at0 (x := .agg [u]) (j := 0) (n := 1) hR3 rfl (by simp) (by simp [cells_agg, huc])
      have l2 := fun k => load_set0 (M := M3) (b := m.length + 1) (own := true) (el := [u]) (k := k) (j := 0) hR3l
      simp only [cells_agg, splice, List.take_zero, List.nil_append, List.cons_append, List.length_cons, List.length_nil, Nat.zero_add, List.drop_succ_cons, List.drop_nil] at s1
      simp (maxDischargeDepth := 30) only [hk', load_at0 hT3, s1, l2, amL, args0, Nat.reduceEqDiff, reduceCtorEq, ↓reduceIte, Nat.reduceAdd, resultsA, results1, Int.reduceNeg, splice, Nat.reduceLeDiff, part, fillA, fillE, Nat.reduceLT]
      rw [hput]
      exact ⟨u, rfl, hgm3.set (by omega) _, hu3.1.set_other encs_z hR3 (by simp) rfl⟩
    simp (maxDischargeDepth := 30) only [hk, load_at0 hT3, amL, args0, Nat.reduceEqDiff, reduceCtorEq, ↓reduceIte, Nat.reduceAdd, resultsA, results1, Int.reduceNeg, splice, Nat.reduceLeDiff, part, fillA, fillE, Nat.reduceLT]
    refine (refFind_spec key hu3.1 (by omega)).mono ?_
    rintro _ M4 ⟨rfl, hg4⟩
    have hT4 := hg4.get hT3
    have hR4 := hg4.get hR3
    have hu4 := hu3.grow hg4
    have hgm4 := hgm3.trans hg4
    have hR4l := (List.getElem?_eq_some_iff.1 hR4).1
    rcases rf_valid (key := key) hval with ⟨hf, hrf⟩ | ⟨hf, hrf, hno⟩
    · have hn0 : ¬ l.length = 0 := by intro h; simp [findL, h] at hf
      obtain ⟨hok, _⟩ := (valid_iff.1 hval).resolve_left hn0
      obtain ⟨s, hs, hs1, hs2⟩ := hok.found hf
      have hi := (List.getElem?_eq_some_iff.1 hs).1
      have hput : putL l key val = (layL l key val, 0) := by simp [putL, hval, hk, needL, hf]
      rcases hu4.cases with ⟨_, h0⟩ | ⟨b, cap, ex, hb1, rfl, hb3⟩
      · rw [← hlen, h0] at hn0; exact absurd rfl hn0
      have hbl := (List.getElem?_eq_some_iff.1 hb3).1
      have ix := hu4.1.index (ki := .i64) (n := (findL l key).1) (by omega) (by omega)
      have st := store_own1 (n := 1) (len := (encs l).length) (cap := cap) (z := 3) (ex := ex) (j := 2) (x := .int .u64 val) hb3 (encs_get hs) (by simp [enc]) rfl rfl
      have e : (encs l).set (findL l key).1 (splice (enc s) 2 (V.int .u64 val).cells) = encs (layL l key val) := by
        have : splice (enc s) 2 (V.int .u64 val).cells = enc ⟨1, key, val⟩ := by simp [splice, enc, V.cells, hs1, hs2]
        rw [this]
        simp [layL, List.map_set]
      rw [e] at st
      simp only [Int.toNat_natCast] at ix
      have c1 : 0 ≤ ((findL l key).1 : Int) := by omega
      have hT5 : (M4.set b (.cells true (encs (layL l key val))))[m.length]? = some (.cells true [[V.slice b 0 (encs l).length cap ex 3]]) := by rw [List.getElem?_set_ne (by omega)]; exact hT4
      have hR5 : (M4.set b (.cells true (encs (layL l key val))))[m.length + 1]? = some (.cells true [[V.nils]]) := by rw [List.getElem?_set_ne (by omega)]; exact hR4
      have hR5l := (List.getElem?_eq_some_iff.1 hR5).1
      have hgm5 : Grow m (M4.set b (.cells true (encs (layL l key val)))) := hgm4.set (by omega) _
      have hsl5 : Sl (M4.set b (.cells true (encs (layL l key val)))) (.slice b 0 (encs l).length cap ex 3) 3 (encs (layL l key val)) := by
        have e3 : (encs l).length = (encs (layL l key val)).length := by simp [layL_length]
        rw [e3]
        exact Sl.mk (List.getElem?_set_self hbl)
      generalize M4.set b (.cells true (encs (layL l key val))) = M5 at st hT5 hR5 hR5l hgm5 hsl5
      have s1 := store_at0 (x := .agg [V.slice b 0 (encs l).length cap ex 3]) (j := 0) (n := 1) hR5 rfl (by simp) rfl
      have l2 := fun k => load_set0 (M := M5) (b := m.length + 1) (own := true) (el := [V.slice b 0 (encs l).length cap ex 3]) (k := k) (j := 0) hR5l
      simp only [cells_agg, splice, List.take_zero, List.nil_append, List.cons_append, List.length_cons, List.length_nil, Nat.zero_add, List.drop_succ_cons, List.drop_nil] at s1
      simp (maxDischargeDepth := 30) only [aft_mk, hrf, c1, load_at0 hT4, ix, st, load_at0 hT5, s1, l2, amL, args0, Nat.reduceEqDiff, reduceCtorEq, ↓reduceIte, Nat.reduceAdd, resultsA, results1, Int.reduceNeg, splice, Nat.reduceLeDiff, part, fillA, fillE, Nat.reduceLT]
      rw [hput]
      exact ⟨_, rfl, hgm5.set (by omega) _, hsl5.set_other encs_z hR5 (by simp) rfl⟩
    have c1 : ¬ (0 : Int) ≤ -1 := by omega
    simp (maxDischargeDepth := 30) only [aft_mk, hrf, c1, load_at0 hT4, hu4.1.len, hlen, amL, args0, Nat.reduceEqDiff, reduceCtorEq, ↓reduceIte, Nat.reduceAdd, resultsA, results1, Int.reduceNeg, splice, Nat.reduceLeDiff, part, fillA, fillE, Nat.reduceLT]
    by_cases hn0 : l.length = 0
    · have hn0' : ¬ (0 : Int) < (l.length : Int) := by omega
      simp (maxDischargeDepth := 30) only [hn0', amL, args0, Nat.reduceEqDiff, reduceCtorEq, ↓reduceIte, Nat.reduceAdd, resultsA, results1, Int.reduceNeg, splice, Nat.reduceLeDiff, part, fillA, fillE, Nat.reduceLT]
      exact refPut_tail (by simp (maxDischargeDepth := 30) only [amL, args0, Nat.reduceEqDiff, reduceCtorEq, ↓reduceIte, Nat.reduceAdd, resultsA, results1, Int.reduceNeg, splice, Nat.reduceLeDiff, part, fillA, fillE, Nat.reduceLT]) (by simp (maxDischargeDepth := 30) only [amL, args0, Nat.reduceEqDiff, reduceCtorEq, ↓reduceIte, Nat.reduceAdd, resultsA, results1, Int.reduceNeg, splice, Nat.reduceLeDiff, part, fillA, fillE, Nat.reduceLT]) (by simp (maxDischargeDepth := 30) only [amL, args0, Nat.reduceEqDiff, reduceCtorEq, ↓reduceIte, Nat.reduceAdd, resultsA, results1, Int.reduceNeg, splice, Nat.reduceLeDiff, part, fillA, fillE, Nat.reduceLT]) (by simp (maxDischargeDepth := 30) only [amL, args0, Nat.reduceEqDiff, reduceCtorEq, ↓reduceIte, Nat.reduceAdd, resultsA, results1, Int.reduceNeg, splice, Nat.reduceLeDiff, part, fillA, fillE, Nat.reduceLT]) hT4 hR4 hu4.1 hgm4 (Nat.le_refl _) (by omega) (by omega) hval hk (by simp [needL, hf, hn0]) hno
    have hn0' : (0 : Int) < (l.length : Int) := by omega
    obtain ⟨hok, h4⟩ := (valid_iff.1 hval).resolve_left hn0
    simp (maxDischargeDepth := 30) only [hn0', load_at0 hT4, amL, args0, Nat.reduceEqDiff, reduceCtorEq, ↓reduceIte, Nat.reduceAdd, resultsA, results1, Int.reduceNeg, splice, Nat.reduceLeDiff, part, fillA, fillE, Nat.reduceLT]
    refine (Copy_spec hu4.1 (by omega)).mono ?_
    rintro _ M5 ⟨u2, rfl, hg5, hu5⟩
    have hM4l := (List.getElem?_eq_some_iff.1 hT4).1
    rcases hu5.cases with ⟨_, h0⟩ | ⟨b, cap, ex, hb1, rfl, hb3⟩
    · rw [← hlen, h0] at hn0; exact absurd rfl hn0
    obtain ⟨p, hp1, hp2⟩ := find_first hok.pow hok.free hk3 hf
    have hlay := refLay_spec (cap := cap) (ex := ex) key val hb3 hok.pow hp2
    rw [← hp1] at hlay
    have hla : l.set (findL l key).1 ⟨1, key, val⟩ = layL l key val := rfl
    rw [hla, ← hlen] at hlay
    simp (maxDischargeDepth := 30) only [aft_mk, amL, args0, Nat.reduceEqDiff, reduceCtorEq, ↓reduceIte, Nat.reduceAdd, resultsA, results1, Int.reduceNeg, splice, Nat.reduceLeDiff, part, fillA, fillE, Nat.reduceLT]
    refine hlay.mono ?_
    rintro _ M6 ⟨rfl, hg6⟩
    have hbl := (List.getElem?_eq_some_iff.1 hb3).1
    have hT6 : M6[m.length]? = some (.cells true [[u]]) := hg6.get (by rw [List.getElem?_set_ne (by omega)]; exact hg5.get hT4)
    have hR6 : M6[m.length + 1]? = some (.cells true [[V.nils]]) := hg6.get (by rw [List.getElem?_set_ne (by omega)]; exact hg5.get hR4)
    have hb6 : M6[b]? = some (.cells true (encs (layL l key val))) := hg6.get (List.getElem?_set_self hbl)
    have hgm6 : Grow m M6 := ((hgm4.trans hg5).set (by omega) _).trans hg6
    have hsl6 : Sl M6 (.slice b 0 (encs l).length cap ex 3) 3 (encs (layL l key val)) := by
      have e3 : (encs l).length = (encs (layL l key val)).length := by simp [layL_length]
      rw [e3]
      exact Sl.mk hb6
    have hul6 : Sl M6 u 3 (encs l) := by
      have hg45 : Grow M4 M6 := ((hg5).set (by omega) _).trans hg6
      exact hu4.1.grow hg45
    have hxl7 : (layL l key val).length = l.length := layL_length
    simp (maxDischargeDepth := 30) only [aft_mk, amL, args0, Nat.reduceEqDiff, reduceCtorEq, ↓reduceIte, Nat.reduceAdd, resultsA, results1, Int.reduceNeg, splice, Nat.reduceLeDiff, part, fillA, fillE, Nat.reduceLT]
    have hX7 : (M6 ++ [Blk.cells true [[V.slice b 0 (encs l).length cap ex 3]]])[M6.length]? = some (.cells true [[V.slice b 0 (encs l).length cap ex 3]]) := by simp
    refine (refMany_spec 0 (hsl6.app) (by omega)).mono ?_
    rintro _ M8 ⟨rfl, hg8⟩
    have hX8 := hg8.get hX7
    have hT8 := hg8.get (getElem?_grow (g := [Blk.cells true [[V.slice b 0 (encs l).length cap ex 3]]]) hT6)
    have hR8 := hg8.get (getElem?_grow (g := [Blk.cells true [[V.slice b 0 (encs l).length cap ex 3]]]) hR6)
    have hgm8 : Grow m M8 := hgm6.app.trans hg8
    have hsl8 := hsl6.app.grow hg8
    have hul8 := hul6.app.grow hg8
    have hR8l := (List.getElem?_eq_some_iff.1 hR8).1
    have hcl := cnt_le 0 (layL l key val)
    have w1 : IntKind.i64.wrap (4 * (cnt 0 (layL l key val) : Int)) = 4 * (cnt 0 (layL l key val) : Int) := by rw [wrap_i64] <;> omega
    obtain ⟨hi, _⟩ := findL_spec (key := key) hok.pow
    obtain ⟨sx, hsx⟩ : ∃ s, l[(findL l key).1]? = some s := ⟨_, List.getElem?_eq_getElem hi⟩
    have hcs := cnt0_set (x := ⟨1, key, val⟩) hsx (show (1:Int) ≠ 0 by decide)
    rw [hla] at hcs
    have hneed : needL l key = decide (4 * cnt 0 (layL l key val) < l.length) := by
      simp only [needL, hf, hsx, Option.any_some, Bool.not_false, Bool.true_and, hn0, decide_false, Bool.false_or]
      by_cases h0 : sx.st = 0
      · rw [if_pos h0] at hcs
        simp only [h0, decide_true, Bool.true_and]
        congr 1
        simp only [eq_iff_iff]
        omega
      · rw [if_neg h0] at hcs
        have : ¬ 4 * cnt 0 (layL l key val) < l.length := by omega
        simp [h0, this]
    by_cases hge : (l.length : Int) ≤ 4 * (cnt 0 (layL l key val) : Int)
    · have hput : putL l key val = (layL l key val, 0) := by
        have : ¬ 4 * cnt 0 (layL l key val) < l.length := by omega
        simp [putL, hval, hk, hneed, this]
      have s1 := store_at0 (x := .agg [V.slice b 0 (encs l).length cap ex 3]) (j := 0) (n := 1) hR8 rfl (by simp) rfl
      have l2 := fun k => load_set0 (M := M8) (b := m.length + 1) (own := true) (el := [V.slice b 0 (encs l).length cap ex 3]) (k := k) (j := 0) hR8l
      simp only [cells_agg, splice, List.take_zero, List.nil_append, List.cons_append, List.length_cons, List.length_nil, Nat.zero_add, List.drop_succ_cons, List.drop_nil] at s1
      simp (maxDischargeDepth := 30) only [aft_mk, w1, hge, load_at0 hX8, s1, l2, amL, args0, Nat.reduceEqDiff, reduceCtorEq, ↓reduceIte, Nat.reduceAdd, resultsA, results1, Int.reduceNeg, splice, Nat.reduceLeDiff, part, fillA, fillE, Nat.reduceLT]
      rw [hput]
      exact ⟨_, rfl, hgm8.set (by omega) _, hsl8.set_other encs_z hR8 (by simp) rfl⟩
    · simp (maxDischargeDepth := 30) only [aft_mk, w1, hge, amL, args0, Nat.reduceEqDiff, reduceCtorEq, ↓reduceIte, Nat.reduceAdd, resultsA, results1, Int.reduceNeg, splice, Nat.reduceLeDiff, part, fillA, fillE, Nat.reduceLT]
      exact refPut_tail (by simp (maxDischargeDepth := 30) only [amL, args0, Nat.reduceEqDiff, reduceCtorEq, ↓reduceIte, Nat.reduceAdd, resultsA, results1, Int.reduceNeg, splice, Nat.reduceLeDiff, part, fillA, fillE, Nat.reduceLT]) (by simp (maxDischargeDepth := 30) only [amL, args0, Nat.reduceEqDiff, reduceCtorEq, ↓reduceIte, Nat.reduceAdd, resultsA, results1, Int.reduceNeg, splice, Nat.reduceLeDiff, part, fillA, fillE, Nat.reduceLT]) (by simp (maxDischargeDepth := 30) only [amL, args0, Nat.reduceEqDiff, reduceCtorEq, ↓reduceIte, Nat.reduceAdd, resultsA, results1, Int.reduceNeg, splice, Nat.reduceLeDiff, part, fillA, fillE, Nat.reduceLT]) (by simp (maxDischargeDepth := 30) only [amL, args0, Nat.reduceEqDiff, reduceCtorEq, ↓reduceIte, Nat.reduceAdd, resultsA, results1, Int.reduceNeg, splice, Nat.reduceLeDiff, part, fillA, fillE, Nat.reduceLT]) hT8 hR8 hul8 hgm8 (Nat.le_refl _) (by omega) (by omega) hval hk (by rw [hneed]; simp; omega) hno
  · have c : ¬ (2 : Int) = 0 := by omega
    have s1 := store_at0 (x := .agg [V.nils]) (j := 0) (n := 1) hR1 rfl (by simp) rfl
    have hR1l := (List.getElem?_eq_some_iff.1 hR1).1
    have l2 := fun k => load_set0 (M := M1) (b := m.length + 1) (own := true) (el := [V.nils]) (k := k) (j := 0) hR1l
    simp only [cells_agg, splice, List.take_zero, List.nil_append, List.cons_append, List.length_cons, List.length_nil, Nat.zero_add, List.drop_succ_cons, List.drop_nil] at s1
    simp (maxDischargeDepth := 30) only [aft_mk, hval, c, hxl, s1, l2, putL, amL, args0, Nat.reduceEqDiff, reduceCtorEq, ↓reduceIte, Nat.reduceAdd, resultsA, results1, Int.reduceNeg, splice, Nat.reduceLeDiff, part, fillA, fillE, Nat.reduceLT]
    exact ⟨_, rfl, hgm1.set (by omega) _, ⟨rfl, rfl⟩⟩
end Go.AM.G
