/- Part of the proof: contracts of functions of the given program on an abstract machine. -/
import Derived.Test.YtdfbfcohindpnaaEphemN
import Derived.Test.YtdfbfcohindpnaaEphemK
set_option linter.unusedVariables false
set_option linter.unusedSimpArgs false
set_option maxRecDepth 100000
namespace Go.AM.G
open Go Go.AM
/-- what All tells. -/
def allL (l : List Slot) : List Int × List Int × Int := if validB l = true then ((srtL (used l)).map (·.key), (srtL (used l)).map (·.val), 0) else ([], [], 2)
theorem used_len {l : List Slot} : (used l).length ≤ l.length := List.length_filter_le _ _
theorem All_spec {m : Mem} {v : V} {l : List Slot} (hv : Sl m v 3 (encs l)) (hl : l.length < 5864062014806) : C S n_ephem_All [.agg [v]] m (fun r m' => ∃ kv vv, r = .tup [kv, vv, .int .i64 (allL l).2.2] ∧ Grow m m' ∧ Sl m' kv 1 (ints (allL l).1) ∧ Sl m' vv 1 (ints (allL l).2.1)) := by
  refine C_body rfl rfl rfl ?_
  unfold ephem_All
  have hcell := hv.cell
  simp (maxDischargeDepth := 30) only [hcell, amL, args0, Nat.reduceEqDiff, reduceCtorEq, ↓reduceIte, Nat.reduceAdd, resultsA, results1, Int.reduceNeg, splice, Nat.reduceLeDiff, part, fillA, fillE, Nat.reduceLT]
  refine (Check_spec hv.app (by omega)).mono ?_
  rintro _ _ ⟨rfl, g, rfl⟩
  by_cases hval : validB l = true
  · have c0 : ¬ ¬ (0 : Int) = 0 := by omega
    have h64 := valid_len hval
    simp (maxDischargeDepth := 30) only [aft_mk, hval, hcell, c0, amL, args0, Nat.reduceEqDiff, reduceCtorEq, ↓reduceIte, Nat.reduceAdd, resultsA, results1, Int.reduceNeg, splice, Nat.reduceLeDiff, part, fillA, fillE, Nat.reduceLT]
    refine (Clone_spec' hv.app.app hl).mono ?_
    rintro u m2 ⟨hg2, hu, huc⟩
    simp (maxDischargeDepth := 30) only [aft_mk, amL, args0, Nat.reduceEqDiff, reduceCtorEq, ↓reduceIte, Nat.reduceAdd, resultsA, results1, Int.reduceNeg, splice, Nat.reduceLeDiff, part, fillA, fillE, Nat.reduceLT]
    have hgm : Grow m (m ++ [Blk.cells true [[v]]] ++ g) := (Grow.refl _).app.app
    refine (DeleteFunc_spec (m0 := m) hgm.len (hgm.trans hg2) hu huc (by omega)).mono ?_
    rintro u2 m3 ⟨hg3, hu2⟩
    have hul := used_len (l := l)
    simp (maxDischargeDepth := 30) only [aft_mk, amL, args0, Nat.reduceEqDiff, reduceCtorEq, ↓reduceIte, Nat.reduceAdd, resultsA, results1, Int.reduceNeg, splice, Nat.reduceLeDiff, part, fillA, fillE, Nat.reduceLT]
    refine (sort_spec hu2 (by omega) hg3 hgm.len).mono ?_
    rintro _ m4 ⟨rfl, hg4, hu4⟩
    generalize hd : srtL (used l) = d at hu4
    have hdl : d.length ≤ 64 := by rw [← hd, srtL_len]; omega
    have hsl := hu4.sl
    have hlen : (encs d).length = d.length := by simp
    simp (maxDischargeDepth := 30) only [aft_mk, hsl.len, hlen, amL, args0, Nat.reduceEqDiff, reduceCtorEq, ↓reduceIte, Nat.reduceAdd, resultsA, results1, Int.reduceNeg, splice, Nat.reduceLeDiff, part, fillA, fillE, Nat.reduceLT]
    have e1 : (allL l).1 = d.map (·.key) := by simp [allL, hval, hd]
    have e2 : (allL l).2.1 = d.map (·.val) := by simp [allL, hval, hd]
    have e3 : (allL l).2.2 = 0 := by simp [allL, hval]
    rw [e1, e2, e3]
    let I := fun (n : Nat) (fr : Frame) (M : Mem) => ∃ (i : Nat) (ku vu : V), i ≤ d.length ∧ n = d.length - i ∧ fr 7 = ku ∧ fr 8 = vu ∧ fr 22 = u2 ∧ fr 23 = .int .i64 d.length ∧ fr 24 = .int .i64 i ∧ Grow m M ∧ Sl M u2 3 (encs d) ∧ m4.length ≤ M.length ∧ (∀ c y, c < m4.length → m4[c]? = some y → M[c]? = some y) ∧ Psh m4.length M ku (ints ((d.map (·.key)).take i)) ∧ Psh m4.length M vu (ints ((d.map (·.val)).take i)) ∧ (∀ c, blkOf ku = some c → blkOf vu ≠ some c)
    refine W_loop I ?_ d.length ?_
    · rintro n fr M ⟨i, ku, vu, hi, rfl, f7, f8, f22, f23, f24, hg, hM, hml, hkeep, hku, hvu, hap⟩
      unfold ephem_All_l0
      simp (maxDischargeDepth := 30) only [f7, f8, f22, f23, f24, amL, args0, Nat.reduceEqDiff, reduceCtorEq, ↓reduceIte, Nat.reduceAdd, resultsA, results1, Int.reduceNeg, splice, Nat.reduceLeDiff, part, fillA, fillE, Nat.reduceLT]
      first | (refine O_split (by simp only [put_apply, Nat.reduceEqDiff, ↓reduceIte, reduceCtorEq]; rfl) (fun h => ?_) (fun h => ?_) <;> simp only [decide_eq_true_eq, decide_eq_false_iff_not, Decidable.not_not, Bool.and_eq_true, Bool.not_eq_true', Bool.not_eq_false'] at h) | (refine W_split (by simp only [get_t, put_apply, Nat.reduceEqDiff, ↓reduceIte, reduceCtorEq]; rfl) (fun h => ?_) (fun h => ?_) <;> simp only [decide_eq_true_eq, decide_eq_false_iff_not, Decidable.not_not, Bool.and_eq_true, Bool.not_eq_true', Bool.not_eq_false'] at h)
      · have hil : i < d.length := by omega
        obtain ⟨s, hs⟩ : ∃ s, d[i]? = some s := ⟨_, List.getElem?_eq_getElem hil⟩
        have ix := hM.index (ki := .i64) (n := i) (by omega) (by omega)
        have ld := fun o k => hM.load (o := o) (k := k) (encs_get hs)
        simp only [Int.toNat_natCast, enc] at ix ld
        have w1 : IntKind.i64.wrap ((i : Int) + 1) = ((i + 1 : Nat) : Int) := by rw [wrap_i64] <;> omega
        simp (maxDischargeDepth := 30) only [h, f7, f8, f22, f23, f24, ix, ld, amL, args0, Nat.reduceEqDiff, reduceCtorEq, ↓reduceIte, Nat.reduceAdd, resultsA, results1, Int.reduceNeg, splice, Nat.reduceLeDiff, part, fillA, fillE, Nat.reduceLT]
        simp only [List.length_append, List.length_cons, List.length_nil, Nat.zero_add, List.replicate_succ, List.replicate_zero]
        have hkb := fun c => hku.blk (c := c)
        have hvb := fun c => hvu.blk (c := c)
        generalize hA : List.set (M ++ [Blk.cells true [[V.int .u8 s.st, V.int .u64 s.key, V.int .u64 s.val]]] ++ [Blk.dead, Blk.dead]) (M.length + 1) (Blk.cells true [[V.int .u64 s.key]]) = A
        have a0 : ∀ (c : Nat) y, M[c]? = some y → A[c]? = some y := by
          intro c y hy
          have := (List.getElem?_eq_some_iff.1 hy).1
          rw [← hA, List.getElem?_set_ne (by omega)]
          exact getElem?_grow (getElem?_grow hy)
        have a1 : A[M.length]? = some (Blk.cells true [[V.int .u8 s.st, V.int .u64 s.key, V.int .u64 s.val]]) := by
          rw [← hA, List.getElem?_set_ne (by omega)]
          exact getElem?_grow (by simp)
        have a2 : A[M.length + 1]? = some (Blk.cells true [[V.int .u64 s.key]]) := by
          rw [← hA, List.getElem?_set_self (by simp)]
        have a3 : A[M.length + 2]? = some .dead := by
          rw [← hA, List.getElem?_set_ne (by omega), List.getElem?_append_right (by simp)]
          simp
        have a4 : A.length = M.length + 3 := by rw [← hA]; simp
        have a5 : (M ++ [Blk.cells true [[V.int .u8 s.st, V.int .u64 s.key, V.int .u64 s.val]]] ++ [Blk.dead, Blk.dead])[M.length + 1]? = some .dead := by
          rw [List.getElem?_append_right (by simp)]
          simp
        have hkl : (ints ((d.map (·.key)).take i)).length ≤ 64 := by simp; omega
        have hvl : (ints ((d.map (·.val)).take i)).length ≤ 64 := by simp; omega
        have rm : ∀ n, n ≤ 64 → roomy (n + 1) 8 = true := by intro n hn; simp [roomy]; omega
        obtain ⟨ku', M', p1, p2, p3, p4, p5⟩ := push (z := .int .u64 0) (bytes := 8) (hku.keep (M' := A) fun c y _ hy => a0 c y hy) a2 (rm _ hkl) (by omega) (fun e => by have := (hkb _ e).2; omega)
        have kne : ∀ c, M.length ≤ c → blkOf ku ≠ some c := fun c hc e => by have := (hkb _ e).2; omega
        have vne : ∀ c, M.length ≤ c → blkOf vu ≠ some c := fun c hc e => by have := (hvb _ e).2; omega
        have b1 := p3 _ _ (kne _ (Nat.le_refl _)) a1
        have b3 := p3 _ _ (kne (M.length + 2) (by omega)) a3
        have ldb : loadV M' none (.ptr M.length 0 2) = some (.int .u64 s.val) := by simp [loadV, b1, part]
        generalize hB : List.set M' (M.length + 2) (Blk.cells true [[V.int .u64 s.val]]) = B
        have c0 : ∀ (c : Nat) y, c ≠ M.length + 2 → M'[c]? = some y → B[c]? = some y := by
          intro c y hc hy
          rw [← hB, List.getElem?_set_ne (Ne.symm hc)]
          exact hy
        have c2 : B[M.length + 2]? = some (Blk.cells true [[V.int .u64 s.val]]) := by
          rw [← hB, List.getElem?_set_self (by omega)]
        have c4 : B.length = M.length + 4 := by rw [← hB]; simp; omega
        have hvu' : Psh m4.length B vu (ints ((d.map (·.val)).take i)) := hvu.keep fun c y hc hy => by
          have := (hvb _ hc).2
          exact c0 c y (by omega) (p3 c y (fun e => hap c e hc) (a0 c y hy))
        obtain ⟨vu', M'', q1, q2, q3, q4, q5⟩ := push (z := .int .u64 0) (bytes := 8) hvu' c2 (rm _ hvl) (by omega) (vne _ (by omega))
        have hku'' : Psh m4.length M'' ku' (ints ((d.map (·.key)).take i) ++ [[.int .u64 s.key]]) := p2.keep fun c y hc hy => by
          rw [p4] at hc
          cases hc
          exact q3 _ y (vne _ (by omega)) (c0 _ y (by omega) hy)
        have hold : ∀ (c : Nat) y, c < m4.length → m4[c]? = some y → M''[c]? = some y := fun c y hc hy => by
          have e1 : blkOf ku ≠ some c := fun e => by have := (hkb _ e).1; omega
          have e2 : blkOf vu ≠ some c := fun e => by have := (hvb _ e).1; omega
          exact q3 c y e2 (c0 c y (by omega) (p3 c y e1 (a0 c y (hkeep c y hc hy))))
        have hgM : Grow m M'' := Grow.keep hg4 fun c y hc hy => hold c y (Nat.lt_of_lt_of_le hc hg4.len) hy
        have hMM : Sl M'' u2 3 (encs d) := by
          rcases hu4 with ⟨rfl, he⟩ | ⟨b, cap, ex, els, h1, rfl, h3, h4⟩
          · rw [he]; exact ⟨rfl, rfl⟩
          · have hbl := (List.getElem?_eq_some_iff.1 h3).1
            exact Pre.sl (B := 0) (.inr ⟨b, cap, ex, els, Nat.zero_le _, rfl, hold b _ hbl h3, h4⟩)
        have tk : ∀ f : Slot → Int, ints ((d.map f).take (i + 1)) = ints ((d.map f).take i) ++ [[.int .u64 (f s)]] := fun f => by
          have : (d.map f)[i]? = some (f s) := by simp [hs]
          obtain ⟨z1, z2⟩ := List.getElem?_eq_some_iff.1 this
          rw [List.take_succ_eq_append_getElem z1, z2]
          simp
        refine ⟨a5, ku', M', p1, ⟨_, ldb, beq_int⟩, b3, ?_⟩
        rw [hB]
        refine ⟨vu', M'', q1, d.length - (i + 1), by omega, i + 1, ku', vu', by omega, rfl, ?_, ?_, ?_, ?_, ?_, hgM, hMM, by omega, hold, ?_, ?_, ?_⟩
        · simp (maxDischargeDepth := 30) only [amL, args0, Nat.reduceEqDiff, reduceCtorEq, ↓reduceIte, Nat.reduceAdd, resultsA, results1, Int.reduceNeg, splice, Nat.reduceLeDiff, part, fillA, fillE, Nat.reduceLT]
        · simp (maxDischargeDepth := 30) only [amL, args0, Nat.reduceEqDiff, reduceCtorEq, ↓reduceIte, Nat.reduceAdd, resultsA, results1, Int.reduceNeg, splice, Nat.reduceLeDiff, part, fillA, fillE, Nat.reduceLT]
        · simp (maxDischargeDepth := 30) only [f22, amL, args0, Nat.reduceEqDiff, reduceCtorEq, ↓reduceIte, Nat.reduceAdd, resultsA, results1, Int.reduceNeg, splice, Nat.reduceLeDiff, part, fillA, fillE, Nat.reduceLT]
        · simp (maxDischargeDepth := 30) only [f23, amL, args0, Nat.reduceEqDiff, reduceCtorEq, ↓reduceIte, Nat.reduceAdd, resultsA, results1, Int.reduceNeg, splice, Nat.reduceLeDiff, part, fillA, fillE, Nat.reduceLT]
        · simp (maxDischargeDepth := 30) only [w1, amL, args0, Nat.reduceEqDiff, reduceCtorEq, ↓reduceIte, Nat.reduceAdd, resultsA, results1, Int.reduceNeg, splice, Nat.reduceLeDiff, part, fillA, fillE, Nat.reduceLT]
        · rw [tk]; exact hku''
        · rw [tk]; exact q2
        · intro c hc
          rw [p4] at hc
          rw [q4]
          intro e
          simp only [Option.some.injEq] at hc e
          omega
      · have : i = d.length := by omega
        subst this
        simp (maxDischargeDepth := 30) only [h, f7, f8, f22, f23, f24, amL, args0, Nat.reduceEqDiff, reduceCtorEq, ↓reduceIte, Nat.reduceAdd, resultsA, results1, Int.reduceNeg, splice, Nat.reduceLeDiff, part, fillA, fillE, Nat.reduceLT]
        rw [List.take_of_length_le (by simp)] at hku hvu
        exact ⟨_, _, rfl, hg, hku.sl, hvu.sl⟩
    · refine ⟨0, .nils, .nils, by omega, rfl, by simp (maxDischargeDepth := 30) only [amL, args0, Nat.reduceEqDiff, reduceCtorEq, ↓reduceIte, Nat.reduceAdd, resultsA, results1, Int.reduceNeg, splice, Nat.reduceLeDiff, part, fillA, fillE, Nat.reduceLT], by simp (maxDischargeDepth := 30) only [amL, args0, Nat.reduceEqDiff, reduceCtorEq, ↓reduceIte, Nat.reduceAdd, resultsA, results1, Int.reduceNeg, splice, Nat.reduceLeDiff, part, fillA, fillE, Nat.reduceLT], by simp (maxDischargeDepth := 30) only [amL, args0, Nat.reduceEqDiff, reduceCtorEq, ↓reduceIte, Nat.reduceAdd, resultsA, results1, Int.reduceNeg, splice, Nat.reduceLeDiff, part, fillA, fillE, Nat.reduceLT], by simp (maxDischargeDepth := 30) only [amL, args0, Nat.reduceEqDiff, reduceCtorEq, ↓reduceIte, Nat.reduceAdd, resultsA, results1, Int.reduceNeg, splice, Nat.reduceLeDiff, part, fillA, fillE, Nat.reduceLT], by simp (maxDischargeDepth := 30) only [amL, args0, Nat.reduceEqDiff, reduceCtorEq, ↓reduceIte, Nat.reduceAdd, resultsA, results1, Int.reduceNeg, splice, Nat.reduceLeDiff, part, fillA, fillE, Nat.reduceLT]; rfl, hg4, hsl, Nat.le_refl _, fun _ _ _ h => h, .inl ⟨rfl, rfl⟩, .inl ⟨rfl, rfl⟩, fun c hc => by cases hc⟩
  · have c : ¬ (2 : Int) = 0 := by omega
    simp (maxDischargeDepth := 30) only [aft_mk, hval, hcell, allL, c, amL, args0, Nat.reduceEqDiff, reduceCtorEq, ↓reduceIte, Nat.reduceAdd, resultsA, results1, Int.reduceNeg, splice, Nat.reduceLeDiff, part, fillA, fillE, Nat.reduceLT]
    exact ⟨_, _, rfl, (Grow.refl _).app.app, ⟨rfl, rfl⟩, ⟨rfl, rfl⟩⟩
end Go.AM.G
