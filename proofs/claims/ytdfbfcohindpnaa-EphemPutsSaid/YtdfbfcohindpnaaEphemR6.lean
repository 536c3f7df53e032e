/- Part of the proof: contracts of functions of the given program on an abstract machine. -/
import Derived.Test.YtdfbfcohindpnaaEphemR5
set_option linter.unusedVariables false
set_option linter.unusedSimpArgs false
set_option maxRecDepth 100000
namespace Go.AM.G
open Go Go.AM
theorem refGet_spec {m : Mem} {v : V} {l : List Slot} (key : Int) (hv : Sl m v 3 (encs l)) (hlt : l.length < 2 ^ 60) : C S n_ref10_Get [.agg [v], .int .u64 key] m (fun r m' => r = .tup [.int .u64 (getL l key).1, .int .i64 (getL l key).2] ∧ Grow m m') := by
  refine C_body rfl rfl rfl ?_
  unfold ref10_Get
  have hcell := hv.cell
  have hlen : (encs l).length = l.length := by simp
  simp (maxDischargeDepth := 30) only [hcell, amL, args0, Nat.reduceEqDiff, reduceCtorEq, ↓reduceIte, Nat.reduceAdd, resultsA, results1, Int.reduceNeg, splice, Nat.reduceLeDiff, part, fillA, fillE, Nat.reduceLT]
  refine (refCheck_spec hv.app hlt).mono ?_
  rintro _ M1 ⟨rfl, hg1⟩
  have hT1 : M1[m.length]? = some (.cells true [[v]]) := hg1.get (by simp)
  have hgm1 : Grow m M1 := (Grow.refl m).app.trans hg1
  by_cases hval : validB l = true
  · have c00 : ¬ ¬ (0 : Int) = 0 := by omega
    have h64 := valid_len hval
    by_cases hk : key = 0
    · have hk' : (key = 0) = True := eq_true hk
      have hg : getL l key = (0, 7) := by simp [getL, hval, hk]
      simp (maxDischargeDepth := 30) only [aft_mk, hval, c00, hk', hg, amL, args0, Nat.reduceEqDiff, reduceCtorEq, ↓reduceIte, Nat.reduceAdd, resultsA, results1, Int.reduceNeg, splice, Nat.reduceLeDiff, part, fillA, fillE, Nat.reduceLT]
      exact hgm1
    simp (maxDischargeDepth := 30) only [aft_mk, hval, c00, hk, load_at0 hT1, amL, args0, Nat.reduceEqDiff, reduceCtorEq, ↓reduceIte, Nat.reduceAdd, resultsA, results1, Int.reduceNeg, splice, Nat.reduceLeDiff, part, fillA, fillE, Nat.reduceLT]
    refine (refFind_spec key (hv.grow hgm1) (by omega)).mono ?_
    rintro _ M2 ⟨rfl, hg2⟩
    have hT2 := hg2.get hT1
    have hv2 := (hv.grow hgm1).grow hg2
    rcases rf_valid (key := key) hval with ⟨hf, hrf⟩ | ⟨hf, hrf, hno⟩
    · have hn0 : ¬ l.length = 0 := by intro h; simp [findL, h] at hf
      obtain ⟨hok, _⟩ := (valid_iff.1 hval).resolve_left hn0
      obtain ⟨s, hs, hs1, hs2⟩ := hok.found hf
      have hi := (List.getElem?_eq_some_iff.1 hs).1
      have ix := hv2.index (ki := .i64) (n := (findL l key).1) (by omega) (by omega)
      have ld := fun o k => hv2.load (o := o) (k := k) (encs_get hs)
      simp only [Int.toNat_natCast, enc] at ix ld
      have c1 : ¬ ((findL l key).1 : Int) < 0 := by omega
      have hg : getL l key = (s.val, 0) := by simp [getL, hval, hk, hf, hs]
      simp (maxDischargeDepth := 30) only [aft_mk, hrf, c1, load_at0 hT2, ix, ld, hg, amL, args0, Nat.reduceEqDiff, reduceCtorEq, ↓reduceIte, Nat.reduceAdd, resultsA, results1, Int.reduceNeg, splice, Nat.reduceLeDiff, part, fillA, fillE, Nat.reduceLT]
      exact hgm1.trans hg2
    · have c1 : (-1 : Int) < 0 := by omega
      have hg : getL l key = (0, 3) := by simp [getL, hval, hk, hf]
      simp (maxDischargeDepth := 30) only [aft_mk, hrf, c1, hg, amL, args0, Nat.reduceEqDiff, reduceCtorEq, ↓reduceIte, Nat.reduceAdd, resultsA, results1, Int.reduceNeg, splice, Nat.reduceLeDiff, part, fillA, fillE, Nat.reduceLT]
      exact hgm1.trans hg2
  · have c : ¬ (2 : Int) = 0 := by omega
    simp (maxDischargeDepth := 30) only [aft_mk, hval, c, getL, amL, args0, Nat.reduceEqDiff, reduceCtorEq, ↓reduceIte, Nat.reduceAdd, resultsA, results1, Int.reduceNeg, splice, Nat.reduceLeDiff, part, fillA, fillE, Nat.reduceLT]
    exact hgm1
theorem delStep_valid {t : List Slot × Nat} {k : Int} (h : validB t.1 = true) : validB (delStep t k).1 = true := by
  unfold delStep
  split
  · rename_i hf
    have hn0 : ¬ t.1.length = 0 := by intro h; simp [findL, h] at hf
    obtain ⟨hok, h4⟩ := (valid_iff.1 h).resolve_left hn0
    obtain ⟨a, b, _⟩ := hok.del hf
    exact valid_iff.2 (.inr ⟨a, by rw [b, List.length_set]; exact h4⟩)
  · exact h
theorem del_valid : ∀ (keys : List Int) {t : List Slot × Nat}, validB t.1 = true → validB (keys.foldl delStep t).1 = true
  | [], _, h => h
  | k :: keys, _, h => del_valid keys (delStep_valid (k := k) h)
theorem refDel_spec {m : Mem} {v w : V} {l : List Slot} {keys : List Int} (hv : Sl m v 3 (encs l)) (hw : Sl m w 1 (ints keys)) (hl : l.length < 5864062014806) (hkl : keys.length < 2 ^ 60) : C S n_ref10_Del [.agg [v], w] m (fun r m' => ∃ v', r = .tup [.agg [v'], .int .i64 (delL l keys).2.1, .int .i64 (delL l keys).2.2] ∧ Grow m m' ∧ Sl m' v' 3 (encs (delL l keys).1)) := by
  refine C_body rfl rfl rfl ?_
  unfold ref10_Del
  have hcell := hv.cell
  have hlen : (encs l).length = l.length := by simp
  have hlk : (ints keys).length = keys.length := by simp
  simp (maxDischargeDepth := 30) only [hcell, amL, args0, Nat.reduceEqDiff, reduceCtorEq, ↓reduceIte, Nat.reduceAdd, resultsA, results1, Int.reduceNeg, splice, Nat.reduceLeDiff, part, fillA, fillE, Nat.reduceLT]
  refine (refCheck_spec hv.app.app (by omega)).mono ?_
  rintro _ M1 ⟨rfl, hg1⟩
  have hT1 : M1[m.length]? = some (.cells true [[v]]) := hg1.get (getElem?_grow (by simp))
  have hxl : (m ++ [Blk.cells true [[v]]]).length = m.length + 1 := by simp
  have hR1 : M1[m.length + 1]? = some (.cells true [[V.nils]]) := hg1.get (by rw [← hxl]; exact List.getElem?_concat_length)
  have hgm1 : Grow m M1 := (Grow.refl m).app.app.trans hg1
  by_cases hval : validB l = true
  · have h64 := valid_len hval
    have hvc := valid_cases hval
    have c00 : ¬ ¬ (0 : Int) = 0 := by omega
    simp (maxDischargeDepth := 30) only [aft_mk, hval, c00, load_at0 hT1, amL, args0, Nat.reduceEqDiff, reduceCtorEq, ↓reduceIte, Nat.reduceAdd, resultsA, results1, Int.reduceNeg, splice, Nat.reduceLeDiff, part, fillA, fillE, Nat.reduceLT]
    refine (Copy_spec (hv.grow hgm1) hl).mono ?_
    rintro _ M2 ⟨u, rfl, hg2, hu⟩
    have huc := hu.1.cell
    have hT2 := hg2.get hT1
    have hR2 := hg2.get hR1
    have hgm2 := hgm1.trans hg2
    have hT2l := (List.getElem?_eq_some_iff.1 hT2).1
    have hM1l : m.length + 2 ≤ M1.length := by have := (List.getElem?_eq_some_iff.1 hR1).1; omega
    have s0 := store_at0 (x := .agg [u]) (j := 0) (n := 1) hT2 rfl (by simp) (by simp [cells_agg, huc])
    simp only [cells_agg, splice, List.take_zero, List.nil_append, List.cons_append, List.length_cons, List.length_nil, Nat.zero_add, List.drop_succ_cons, List.drop_nil] at s0
    simp (maxDischargeDepth := 30) only [aft_mk, huc, s0, hxl, hw.len, hlk, amL, args0, Nat.reduceEqDiff, reduceCtorEq, ↓reduceIte, Nat.reduceAdd, resultsA, results1, Int.reduceNeg, splice, Nat.reduceLeDiff, part, fillA, fillE, Nat.reduceLT]
    have hu3 : Fresh (m.length + 2) (M2.set m.length (.cells true [[u]])) u 3 (encs l) := (hu.to (fun b x hb hx => by rw [List.getElem?_set_ne (by omega)]; exact hx)).weaken hM1l
    have hT3 : (M2.set m.length (.cells true [[u]]))[m.length]? = some (.cells true [[u]]) := List.getElem?_set_self hT2l
    have hR3 : (M2.set m.length (.cells true [[u]]))[m.length + 1]? = some (.cells true [[V.nils]]) := by rw [List.getElem?_set_ne (by omega)]; exact hR2
    have hgm3 : Grow m (M2.set m.length (.cells true [[u]])) := hgm2.set (Nat.le_refl _) _
    generalize M2.set m.length (.cells true [[u]]) = M3 at hu3 hT3 hR3 hgm3
    let T := fun (i : Nat) => (keys.take i).foldl delStep (l, 0)
    have hpc : l.length = 0 ∨ Pow l.length := hvc.imp id And.left
    have hTs : ∀ i k, keys[i]? = some k → T (i + 1) = delStep (T i) k := by
      intro i k hk
      obtain ⟨a1, e1⟩ := List.getElem?_eq_some_iff.1 hk
      simp only [T]
      rw [List.take_succ_eq_append_getElem a1, e1, List.foldl_append]
      rfl
    have hTi : ∀ i, (T i).1.length = l.length ∧ (T i).2 ≤ i ∧ validB (T i).1 = true := by
      intro i
      obtain ⟨a, b, c⟩ := del_fold (keys := keys.take i) (t := (l, 0)) hpc
      refine ⟨a, ?_, del_valid _ hval⟩
      simp only [List.length_take] at c
      simp only [T]
      omega
    have hTl : T keys.length = keys.foldl delStep (l, 0) := by simp only [T, List.take_length]
    let J := fun (n : Nat) (fr : Frame) (M' : Mem) => ∃ i : Nat, i ≤ keys.length ∧ n = keys.length - i ∧ fr 2 = .ptr m.length 0 0 ∧ fr 4 = .ptr (m.length + 1) 0 0 ∧ fr 17 = w ∧ fr 18 = .int .i64 keys.length ∧ fr 19 = .int .i64 i ∧ fr 7 = .int .i64 (T i).2 ∧ Grow m M' ∧ M'[m.length]? = some (.cells true [[u]]) ∧ M'[m.length + 1]? = some (.cells true [[.nils]]) ∧ Fresh (m.length + 2) M' u 3 (encs (T i).1)
    refine W_loop J ?_ keys.length ?_
    · rintro n fr M4 ⟨i, hi, rfl, f2, f4, f17, f18, f19, f7, hg, hb1, hR1, hu1⟩
      unfold ref10_Del_l0
      simp (maxDischargeDepth := 30) only [f2, f4, f17, f18, f19, f7, amL, args0, Nat.reduceEqDiff, reduceCtorEq, ↓reduceIte, Nat.reduceAdd, resultsA, results1, Int.reduceNeg, splice, Nat.reduceLeDiff, part, fillA, fillE, Nat.reduceLT]
      first | (refine O_split (by simp only [put_apply, Nat.reduceEqDiff, ↓reduceIte, reduceCtorEq]; rfl) (fun h => ?_) (fun h => ?_) <;> simp only [decide_eq_true_eq, decide_eq_false_iff_not, Decidable.not_not, Bool.and_eq_true, Bool.not_eq_true', Bool.not_eq_false'] at h) | (refine W_split (by simp only [get_t, put_apply, Nat.reduceEqDiff, ↓reduceIte, reduceCtorEq]; rfl) (fun h => ?_) (fun h => ?_) <;> simp only [decide_eq_true_eq, decide_eq_false_iff_not, Decidable.not_not, Bool.and_eq_true, Bool.not_eq_true', Bool.not_eq_false'] at h)
      · have hil : i < keys.length := by omega
        obtain ⟨k, hk⟩ : ∃ k, keys[i]? = some k := ⟨_, List.getElem?_eq_getElem hil⟩
        have hwl := hw.grow hg
        have ix := hwl.index (ki := .i64) (n := i) (by omega) (by omega)
        have ld := fun o j => hwl.load (o := o) (k := j) (i := i) (el := [.int .u64 k]) (by simp [hk])
        simp only [Int.toNat_natCast] at ix ld
        have w1 : IntKind.i64.wrap ((i : Int) + 1) = ((i + 1 : Nat) : Int) := by rw [wrap_i64] <;> omega
        obtain ⟨t1, t3, tv⟩ := hTi i
        have w2 : IntKind.i64.wrap (((T i).2 : Int) + 1) = (((T i).2 + 1 : Nat) : Int) := by rw [wrap_i64] <;> omega
        simp (maxDischargeDepth := 30) only [h, f2, f4, f17, f18, f19, f7, ix, ld, load_at0 hb1, amL, args0, Nat.reduceEqDiff, reduceCtorEq, ↓reduceIte, Nat.reduceAdd, resultsA, results1, Int.reduceNeg, splice, Nat.reduceLeDiff, part, fillA, fillE, Nat.reduceLT]
        refine (refFind_spec k hu1.1 (by omega)).mono ?_
        rintro _ M5 ⟨rfl, hg5⟩
        have hb5 := hg5.get hb1
        have hR5 := hg5.get hR1
        have hu5 := hu1.grow hg5
        have hgm5 := hg.trans hg5
        rcases rf_valid (key := k) tv with ⟨hf, hrf⟩ | ⟨hf, hrf, _⟩
        · have hTn : T (i + 1) = ((T i).1.set (findL (T i).1 k).1 ⟨2, 0, 0⟩, (T i).2 + 1) := by rw [hTs i k hk, delStep, if_pos hf]
          have hn0 : (T i).1.length ≠ 0 := by intro h0; simp [findL, h0] at hf
          obtain ⟨hpow, _⟩ := (valid_cases tv).resolve_left hn0
          obtain ⟨hfi, hfs⟩ := findL_spec (key := k) hpow
          obtain ⟨s, hs, hs1, _⟩ := hfs hf
          have ht3 : (encs (T i).1).length = (T i).1.length := by simp
          rcases hu5.cases with ⟨_, h0⟩ | ⟨b, cap, ex, hbR, rfl, hb3⟩
          · rw [← ht3, h0] at hn0; exact absurd rfl hn0
          have ix2 := hu5.1.index (ki := .i64) (n := (findL (T i).1 k).1) (by omega) (by omega)
          have st := store_own (n := 3) (len := (encs (T i).1).length) (cap := cap) (z := 3) (ex := ex) (x := .agg [.int .u8 2, .int .u64 0, .int .u64 0]) hb3 (encs_get hs) rfl rfl rfl
          have e : (encs (T i).1).set (findL (T i).1 k).1 [.int .u8 2, .int .u64 0, .int .u64 0] = encs (T (i + 1)).1 := by rw [hTn]; simp [List.map_set, enc]
          simp only [Int.toNat_natCast, cells_agg, e] at ix2 st
          have hbl := (List.getElem?_eq_some_iff.1 hb3).1
          have c1 : 0 ≤ ((findL (T i).1 k).1 : Int) := by omega
          simp (maxDischargeDepth := 30) only [aft_mk, hrf, c1, f2, f4, f17, f18, f19, f7, load_at0 hb5, ix2, st, w1, w2, amL, args0, Nat.reduceEqDiff, reduceCtorEq, ↓reduceIte, Nat.reduceAdd, resultsA, results1, Int.reduceNeg, splice, Nat.reduceLeDiff, part, fillA, fillE, Nat.reduceLT]
          refine ⟨_, ?_, i + 1, by omega, rfl, ?_, ?_, ?_, ?_, ?_, ?_, hgm5.set (by omega) _, ?_, ?_, ?_⟩
          · omega
          · simp (maxDischargeDepth := 30) only [f2, amL, args0, Nat.reduceEqDiff, reduceCtorEq, ↓reduceIte, Nat.reduceAdd, resultsA, results1, Int.reduceNeg, splice, Nat.reduceLeDiff, part, fillA, fillE, Nat.reduceLT]
          · simp (maxDischargeDepth := 30) only [f4, amL, args0, Nat.reduceEqDiff, reduceCtorEq, ↓reduceIte, Nat.reduceAdd, resultsA, results1, Int.reduceNeg, splice, Nat.reduceLeDiff, part, fillA, fillE, Nat.reduceLT]
          · simp (maxDischargeDepth := 30) only [f17, amL, args0, Nat.reduceEqDiff, reduceCtorEq, ↓reduceIte, Nat.reduceAdd, resultsA, results1, Int.reduceNeg, splice, Nat.reduceLeDiff, part, fillA, fillE, Nat.reduceLT]
          · simp (maxDischargeDepth := 30) only [f18, amL, args0, Nat.reduceEqDiff, reduceCtorEq, ↓reduceIte, Nat.reduceAdd, resultsA, results1, Int.reduceNeg, splice, Nat.reduceLeDiff, part, fillA, fillE, Nat.reduceLT]
          · simp (maxDischargeDepth := 30) only [amL, args0, Nat.reduceEqDiff, reduceCtorEq, ↓reduceIte, Nat.reduceAdd, resultsA, results1, Int.reduceNeg, splice, Nat.reduceLeDiff, part, fillA, fillE, Nat.reduceLT]
          · simp (maxDischargeDepth := 30) only [amL, args0, Nat.reduceEqDiff, reduceCtorEq, ↓reduceIte, Nat.reduceAdd, resultsA, results1, Int.reduceNeg, splice, Nat.reduceLeDiff, part, fillA, fillE, Nat.reduceLT]; rw [hTn]
          · rw [List.getElem?_set_ne (by omega)]; exact hb5
          · rw [List.getElem?_set_ne (by omega)]; exact hR5
          · refine Fresh.mk (.inr ⟨b, cap, ex, hbR, ?_, List.getElem?_set_self hbl⟩)
            rw [hTn]; simp
        · have hTn : T (i + 1) = T i := by rw [hTs i k hk, delStep, if_neg (by rw [hf]; decide)]
          have c1 : ¬ (0 : Int) ≤ -1 := by omega
          simp (maxDischargeDepth := 30) only [aft_mk, hrf, c1, f2, f4, f17, f18, f19, f7, w1, w2, amL, args0, Nat.reduceEqDiff, reduceCtorEq, ↓reduceIte, Nat.reduceAdd, resultsA, results1, Int.reduceNeg, splice, Nat.reduceLeDiff, part, fillA, fillE, Nat.reduceLT]
          refine ⟨_, ?_, i + 1, by omega, rfl, ?_, ?_, ?_, ?_, ?_, ?_, hgm5, hb5, hR5, ?_⟩
          · omega
          · simp (maxDischargeDepth := 30) only [f2, amL, args0, Nat.reduceEqDiff, reduceCtorEq, ↓reduceIte, Nat.reduceAdd, resultsA, results1, Int.reduceNeg, splice, Nat.reduceLeDiff, part, fillA, fillE, Nat.reduceLT]
          · simp (maxDischargeDepth := 30) only [f4, amL, args0, Nat.reduceEqDiff, reduceCtorEq, ↓reduceIte, Nat.reduceAdd, resultsA, results1, Int.reduceNeg, splice, Nat.reduceLeDiff, part, fillA, fillE, Nat.reduceLT]
          · simp (maxDischargeDepth := 30) only [f17, amL, args0, Nat.reduceEqDiff, reduceCtorEq, ↓reduceIte, Nat.reduceAdd, resultsA, results1, Int.reduceNeg, splice, Nat.reduceLeDiff, part, fillA, fillE, Nat.reduceLT]
          · simp (maxDischargeDepth := 30) only [f18, amL, args0, Nat.reduceEqDiff, reduceCtorEq, ↓reduceIte, Nat.reduceAdd, resultsA, results1, Int.reduceNeg, splice, Nat.reduceLeDiff, part, fillA, fillE, Nat.reduceLT]
          · simp (maxDischargeDepth := 30) only [amL, args0, Nat.reduceEqDiff, reduceCtorEq, ↓reduceIte, Nat.reduceAdd, resultsA, results1, Int.reduceNeg, splice, Nat.reduceLeDiff, part, fillA, fillE, Nat.reduceLT]
          · simp (maxDischargeDepth := 30) only [f7, amL, args0, Nat.reduceEqDiff, reduceCtorEq, ↓reduceIte, Nat.reduceAdd, resultsA, results1, Int.reduceNeg, splice, Nat.reduceLeDiff, part, fillA, fillE, Nat.reduceLT]; rw [hTn]
          · rw [hTn]; exact hu5
      · have : i = keys.length := by omega
        subst this
        have s1 := store_at0 (x := .agg [u]) (j := 0) (n := 1) hR1 rfl (by simp) (by simp [cells_agg, huc])
        have hRl1 := (List.getElem?_eq_some_iff.1 hR1).1
        have l2 := fun k => load_set0 (M := M4) (b := m.length + 1) (own := true) (el := [u]) (k := k) (j := 0) hRl1
        simp only [cells_agg, splice, List.take_zero, List.nil_append, List.cons_append, List.length_cons, List.length_nil, Nat.zero_add, List.drop_succ_cons, List.drop_nil] at s1
        simp (maxDischargeDepth := 30) only [h, f2, f4, f17, f18, f19, f7, load_at0 hb1, s1, l2, amL, args0, Nat.reduceEqDiff, reduceCtorEq, ↓reduceIte, Nat.reduceAdd, resultsA, results1, Int.reduceNeg, splice, Nat.reduceLeDiff, part, fillA, fillE, Nat.reduceLT]
        have e1 : (delL l keys).1 = (T keys.length).1 := by simp [delL, hval, hTl]
        have e2 : (delL l keys).2.1 = (T keys.length).2 := by simp [delL, hval, hTl]
        have e3 : (delL l keys).2.2 = 0 := by simp [delL, hval]
        rw [e1, e2, e3]
        exact ⟨u, rfl, hg.set (by omega) _, hu1.1.set_other encs_z hR1 (by simp) rfl⟩
    · refine ⟨0, by omega, rfl, by simp (maxDischargeDepth := 30) only [amL, args0, Nat.reduceEqDiff, reduceCtorEq, ↓reduceIte, Nat.reduceAdd, resultsA, results1, Int.reduceNeg, splice, Nat.reduceLeDiff, part, fillA, fillE, Nat.reduceLT], by simp (maxDischargeDepth := 30) only [amL, args0, Nat.reduceEqDiff, reduceCtorEq, ↓reduceIte, Nat.reduceAdd, resultsA, results1, Int.reduceNeg, splice, Nat.reduceLeDiff, part, fillA, fillE, Nat.reduceLT], by simp (maxDischargeDepth := 30) only [amL, args0, Nat.reduceEqDiff, reduceCtorEq, ↓reduceIte, Nat.reduceAdd, resultsA, results1, Int.reduceNeg, splice, Nat.reduceLeDiff, part, fillA, fillE, Nat.reduceLT], by simp (maxDischargeDepth := 30) only [amL, args0, Nat.reduceEqDiff, reduceCtorEq, ↓reduceIte, Nat.reduceAdd, resultsA, results1, Int.reduceNeg, splice, Nat.reduceLeDiff, part, fillA, fillE, Nat.reduceLT], by simp (maxDischargeDepth := 30) only [amL, args0, Nat.reduceEqDiff, reduceCtorEq, ↓reduceIte, Nat.reduceAdd, resultsA, results1, Int.reduceNeg, splice, Nat.reduceLeDiff, part, fillA, fillE, Nat.reduceLT]; rfl, by simp (maxDischargeDepth := 30) only [amL, args0, Nat.reduceEqDiff, reduceCtorEq, ↓reduceIte, Nat.reduceAdd, resultsA, results1, Int.reduceNeg, splice, Nat.reduceLeDiff, part, fillA, fillE, Nat.reduceLT]; rfl, hgm3, hT3, hR3, hu3⟩
  · have c : ¬ (2 : Int) = 0 := by omega
    have s1 := store_at0 (x := .agg [V.nils]) (j := 0) (n := 1) hR1 rfl (by simp) rfl
    have hR1l := (List.getElem?_eq_some_iff.1 hR1).1
    have l2 := fun k => load_set0 (M := M1) (b := m.length + 1) (own := true) (el := [V.nils]) (k := k) (j := 0) hR1l
    simp only [cells_agg, splice, List.take_zero, List.nil_append, List.cons_append, List.length_cons, List.length_nil, Nat.zero_add, List.drop_succ_cons, List.drop_nil] at s1
    simp (maxDischargeDepth := 30) only [aft_mk, hval, c, hxl, s1, l2, delL, amL, args0, Nat.reduceEqDiff, reduceCtorEq, ↓reduceIte, Nat.reduceAdd, resultsA, results1, Int.reduceNeg, splice, Nat.reduceLeDiff, part, fillA, fillE, Nat.reduceLT]
    exact ⟨_, rfl, hgm1.set (by omega) _, ⟨rfl, rfl⟩⟩
/-- EphemPuts on the abstract machine. -/
theorem puts_spec {m : Mem} {v w : V} {l : List Slot} {keys : List Int} (key val : Int) (hv : Sl m v 3 (encs l)) (hst0 : ∀ s ∈ l, 0 ≤ s.st) (hw : Sl m w 1 (ints keys)) (hl : l.length < 5864062014806) (hkl : keys.length < 2 ^ 60) : C S n_law10_EphemPuts [.agg [v], .int .u64 key, .int .u64 val, w] m (fun r m' => r = .bool true ∧ Grow m m') := by
  refine C_body rfl rfl rfl ?_
  unfold law10_EphemPuts
  have hcell := hv.cell
  simp (maxDischargeDepth := 30) only [hcell, amL, args0, Nat.reduceEqDiff, reduceCtorEq, ↓reduceIte, Nat.reduceAdd, resultsA, results1, Int.reduceNeg, splice, Nat.reduceLeDiff, part, fillA, fillE, Nat.reduceLT]
  refine (Copy_spec hv.app hl).mono ?_
  rintro _ M1 ⟨g, rfl, hg1, hgf⟩
  have hgc := hgf.1.cell
  have hT1 : M1[m.length]? = some (.cells true [[v]]) := hg1.get (by simp)
  have hgm1 : Grow m M1 := (Grow.refl m).app.trans hg1
  have hgs := hgf.1
  clear hgf
  simp (maxDischargeDepth := 30) only [aft_mk, hgc, amL, args0, Nat.reduceEqDiff, reduceCtorEq, ↓reduceIte, Nat.reduceAdd, resultsA, results1, Int.reduceNeg, splice, Nat.reduceLeDiff, part, fillA, fillE, Nat.reduceLT]
  have h9 : ∀ k M, Grow (M1 ++ [Blk.cells true [[g]]]) M → loadV M k (.ptr M1.length 0 0) = part [g] 0 k := fun k M hM => load_at0 (own := true) (hM.get (by simp))
  have h4 : ∀ k M, Grow (M1 ++ [Blk.cells true [[g]]]) M → loadV M k (.ptr m.length 0 0) = part [v] 0 k := fun k M hM => load_at0 (hM.get (getElem?_grow hT1))
  have hgg : ∀ M, Grow (M1 ++ [Blk.cells true [[g]]]) M → Sl M g 3 (encs l) ∧ Sl M v 3 (encs l) ∧ Sl M w 1 (ints keys) ∧ Grow m M := fun M hM => ⟨(hgs.app).grow hM, ((hv.grow hgm1).app).grow hM, ((hw.grow hgm1).app).grow hM, hgm1.app.trans hM⟩
  have hp1 : (putL l key val).1.length < 5864062014806 := by
    by_cases hval : validB l = true
    · have := valid_len hval
      have := putL_len (l := l) (key := key) (val := val)
      omega
    · simp [putL, hval]
  have hd1 : (delL l keys).1.length < 5864062014806 := Nat.lt_of_le_of_lt delL_len hl
  generalize M1 ++ [Blk.cells true [[g]]] = M2 at h9 h4 hgg
  obtain ⟨a1, a2, a3, a4⟩ := hgg M2 (Grow.refl _)
  refine (Put_spec key val a1 hl).mono ?_
  rintro _ M3 ⟨ua, rfl, hg3, hua⟩
  have huac := hua.1.cell
  obtain ⟨b1, b2, b3, b4⟩ := hgg _ (hg3.app (g := [Blk.cells true [[ua]]]))
  have hua1 := hua.1.app (g := [Blk.cells true [[ua]]])
  have hX1 : (M3 ++ [Blk.cells true [[ua]]])[M3.length]? = some (.cells true [[ua]]) := by simp
  have hG1 := hg3.app (g := [Blk.cells true [[ua]]])
  clear hua
  simp (maxDischargeDepth := 30) only [aft_mk, huac, h4 _ _ hG1, amL, args0, Nat.reduceEqDiff, reduceCtorEq, ↓reduceIte, Nat.reduceAdd, resultsA, results1, Int.reduceNeg, splice, Nat.reduceLeDiff, part, fillA, fillE, Nat.reduceLT]
  generalize hM4 : M3 ++ [Blk.cells true [[ua]]] = M4 at b1 b2 b3 b4 hua1 hX1 hG1
  refine (refPut_spec key val b2 hl hst0).mono ?_
  rintro _ M5 ⟨ub, rfl, hg5, hub⟩
  have hubc := hub.cell
  have hG2 := (hG1.trans hg5).app (g := [Blk.cells true [[ub]]])
  obtain ⟨d1, d2, d3, d4⟩ := hgg _ hG2
  have hX2 : (M5 ++ [Blk.cells true [[ub]]])[M3.length]? = some (.cells true [[ua]]) := getElem?_grow (hg5.get hX1)
  have hY2 : (M5 ++ [Blk.cells true [[ub]]])[M5.length]? = some (.cells true [[ub]]) := by simp
  have hua2 := (hua1.grow hg5).app (g := [Blk.cells true [[ub]]])
  have hub2 := hub.app (g := [Blk.cells true [[ub]]])
  simp (maxDischargeDepth := 30) only [aft_mk, hubc, h9 _ _ hG2, amL, args0, Nat.reduceEqDiff, reduceCtorEq, ↓reduceIte, Nat.reduceAdd, resultsA, results1, Int.reduceNeg, splice, Nat.reduceLeDiff, part, fillA, fillE, Nat.reduceLT]
  generalize hM6 : M5 ++ [Blk.cells true [[ub]]] = M6 at d1 d2 d3 d4 hX2 hY2 hua2 hub2 hG2
  refine (Del_spec d1 d3 hl hkl).mono ?_
  rintro _ M7 ⟨uc, rfl, hg7, huc⟩
  have hucc := huc.1.cell
  have hG3 := (hG2.trans hg7).app (g := [Blk.cells true [[uc]]])
  obtain ⟨e1, e2, e3, e4⟩ := hgg _ hG3
  have hX3 : (M7 ++ [Blk.cells true [[uc]]])[M3.length]? = some (.cells true [[ua]]) := getElem?_grow (hg7.get hX2)
  have hY3 : (M7 ++ [Blk.cells true [[uc]]])[M5.length]? = some (.cells true [[ub]]) := getElem?_grow (hg7.get hY2)
  have hZ3 : (M7 ++ [Blk.cells true [[uc]]])[M7.length]? = some (.cells true [[uc]]) := by simp
  have hua3 := (hua2.grow hg7).app (g := [Blk.cells true [[uc]]])
  have hub3 := (hub2.grow hg7).app (g := [Blk.cells true [[uc]]])
  have huc3 := huc.1.app (g := [Blk.cells true [[uc]]])
  simp (maxDischargeDepth := 30) only [aft_mk, hucc, h4 _ _ hG3, amL, args0, Nat.reduceEqDiff, reduceCtorEq, ↓reduceIte, Nat.reduceAdd, resultsA, results1, Int.reduceNeg, splice, Nat.reduceLeDiff, part, fillA, fillE, Nat.reduceLT]
  generalize hM8 : M7 ++ [Blk.cells true [[uc]]] = M8 at e1 e2 e3 e4 hX3 hY3 hZ3 hua3 hub3 huc3 hG3
  refine (refDel_spec e2 e3 hl hkl).mono ?_
  rintro _ M9 ⟨ud, rfl, hg9, hud⟩
  have hudc := hud.cell
  have hG4 := (hG3.trans hg9).app (g := [Blk.cells true [[ud]]])
  obtain ⟨k1, k2, k3, k4⟩ := hgg _ hG4
  have hX4 : (M9 ++ [Blk.cells true [[ud]]])[M3.length]? = some (.cells true [[ua]]) := getElem?_grow (hg9.get hX3)
  have hY4 : (M9 ++ [Blk.cells true [[ud]]])[M5.length]? = some (.cells true [[ub]]) := getElem?_grow (hg9.get hY3)
  have hZ4 : (M9 ++ [Blk.cells true [[ud]]])[M7.length]? = some (.cells true [[uc]]) := getElem?_grow (hg9.get hZ3)
  have hW4 : (M9 ++ [Blk.cells true [[ud]]])[M9.length]? = some (.cells true [[ud]]) := by simp
  have hua4 := (hua3.grow hg9).app (g := [Blk.cells true [[ud]]])
  have hub4 := (hub3.grow hg9).app (g := [Blk.cells true [[ud]]])
  have huc4 := (huc3.grow hg9).app (g := [Blk.cells true [[ud]]])
  have hud4 := hud.app (g := [Blk.cells true [[ud]]])
  simp (maxDischargeDepth := 30) only [aft_mk, hudc, amL, args0, Nat.reduceEqDiff, reduceCtorEq, ↓reduceIte, Nat.reduceAdd, resultsA, results1, Int.reduceNeg, splice, Nat.reduceLeDiff, part, fillA, fillE, Nat.reduceLT]
  generalize hM10 : M9 ++ [Blk.cells true [[ud]]] = M10 at k1 k2 k3 k4 hX4 hY4 hZ4 hW4 hua4 hub4 huc4 hud4 hG4
  refine lives_spec.mono ?_
  rintro _ _ ⟨rfl, rfl⟩
  simp (maxDischargeDepth := 30) only [aft_mk, load_at0 hX4, load_at0 hY4, amL, args0, Nat.reduceEqDiff, reduceCtorEq, ↓reduceIte, Nat.reduceAdd, resultsA, results1, Int.reduceNeg, splice, Nat.reduceLeDiff, part, fillA, fillE, Nat.reduceLT]
  refine (Same_spec hua4 hub4 hp1).mono ?_
  rintro _ M11 ⟨rfl, hg11⟩
  simp (maxDischargeDepth := 30) only [aft_mk, load_at0 (hg11.get hZ4), load_at0 (hg11.get hW4), amL, args0, Nat.reduceEqDiff, reduceCtorEq, ↓reduceIte, Nat.reduceAdd, resultsA, results1, Int.reduceNeg, splice, Nat.reduceLeDiff, part, fillA, fillE, Nat.reduceLT]
  refine (Same_spec (huc4.grow hg11) (hud4.grow hg11) hd1).mono ?_
  rintro _ M12 ⟨rfl, hg12⟩
  have hG5 := hG4.trans (hg11.trans hg12)
  obtain ⟨q1, q2, q3, q4⟩ := hgg _ hG5
  simp (maxDischargeDepth := 30) only [aft_mk, h9 _ _ hG5, h4 _ _ hG5, amL, args0, Nat.reduceEqDiff, reduceCtorEq, ↓reduceIte, Nat.reduceAdd, resultsA, results1, Int.reduceNeg, splice, Nat.reduceLeDiff, part, fillA, fillE, Nat.reduceLT]
  refine (Same_spec q1 q2 hl).mono ?_
  rintro _ M13 ⟨rfl, hg13⟩
  simp (maxDischargeDepth := 30) only [aft_mk, amL, args0, Nat.reduceEqDiff, reduceCtorEq, ↓reduceIte, Nat.reduceAdd, resultsA, results1, Int.reduceNeg, splice, Nat.reduceLeDiff, part, fillA, fillE, Nat.reduceLT]
  exact q4.trans hg13
end Go.AM.G
