/- Part of the proof: contracts of functions of the given program on an abstract machine. -/
import Derived.Test.YtdfbfcohindpnaaEphemR3
set_option linter.unusedVariables false
set_option linter.unusedSimpArgs false
set_option maxRecDepth 100000
namespace Go.AM.G
open Go Go.AM
theorem rf_valid {l : List Slot} {key : Int} (h : validB l = true) : ((findL l key).2 = true ∧ rf key l 0 = ((findL l key).1 : Int)) ∨ ((findL l key).2 = false ∧ rf key l 0 = -1 ∧ ∀ v, ¬ Has l key v) := by
  rcases rf_cases key l 0 with ⟨e, hn⟩ | ⟨j, s, e, hj, a, b, _⟩
  · have hno : ∀ v, ¬ Has l key v := by
      intro v hv
      obtain ⟨s, hs, h1, h2, _⟩ := has_iff.1 hv
      exact hn s hs ⟨h1, h2⟩
    refine .inr ⟨?_, e, hno⟩
    cases hf : (findL l key).2 with
    | false => rfl
    | true =>
      have hl : ¬ l.length = 0 := by intro h0; simp [findL, h0] at hf
      obtain ⟨h1, _⟩ := (valid_iff.1 h).resolve_left hl
      obtain ⟨v, hv⟩ := h1.found_iff.1 hf
      exact absurd hv (hno v)
  · have hl : ¬ l.length = 0 := by have := (List.getElem?_eq_some_iff.1 hj).1; omega
    obtain ⟨h1, _⟩ := (valid_iff.1 h).resolve_left hl
    have := (h1.find hj a).1
    rw [b] at this
    rw [this, e]
    exact .inl ⟨rfl, by simp⟩
def fillT (l : List Slot) (i : Nat) : List Slot := (l.take i).foldl (fun t s => if s.st = 1 then layL t s.key s.val else t) (List.replicate (sizeL (cnt 1 l)) zeroS)
theorem fillT_succ {l : List Slot} {i : Nat} {x : Slot} (hx : l[i]? = some x) : fillT l (i + 1) = if x.st = 1 then layL (fillT l i) x.key x.val else fillT l i := by
  obtain ⟨a1, e1⟩ := List.getElem?_eq_some_iff.1 hx
  unfold fillT
  rw [List.take_succ_eq_append_getElem a1, e1, List.foldl_append]
  rfl
theorem fillT_all {l : List Slot} : fillT l l.length = anewL l := by unfold fillT anewL; rw [List.take_length]
theorem fillT_ok {l : List Slot} (h : validB l = true) (hs : sizeL (cnt 1 l) ≤ 64) (i : Nat) : okT (fillT l i) ∧ K3 (fillT l i) ∧ (fillT l i).length = sizeL (cnt 1 l) ∧ ∀ k v, Has (fillT l i) k v ↔ ∃ s ∈ l.take i, s.st = 1 ∧ s.key = k ∧ s.val = v := by
  have hc := sizeL_cases (cnt 1 l)
  have hp : Pow (sizeL (cnt 1 l) : Nat) := by unfold Pow; omega
  obtain ⟨h1, h2⟩ := valid_pair h
  have h0 : ∀ k v, ¬ Has (List.replicate (sizeL (cnt 1 l)) zeroS) k v := by
    rintro k v ⟨j, s, hj, a, _⟩
    simp only [List.getElem?_replicate, Option.ite_none_right_eq_some, Option.some.injEq] at hj
    rw [← hj.2] at a
    simp [zeroS] at a
  have he : cnt 0 (List.replicate (sizeL (cnt 1 l)) zeroS) = sizeL (cnt 1 l) := by simp [cnt, zeroS, List.countP_replicate]
  have hcl : cnt 1 (l.take i) ≤ cnt 1 l := List.Sublist.countP_le (List.take_sublist i l)
  obtain ⟨a, b⟩ := anew_fold (l.take i) _ (okT_zero hp) (by rw [he]; omega) (fun s hs => h1 s (List.mem_of_mem_take hs)) (h2.sublist (List.take_sublist i l)) (fun s _ _ => h0 s.key)
  refine ⟨a, ?_, ?_, fun k v => (b k v).trans ⟨fun hh => hh.resolve_left (h0 k v), .inr⟩⟩
  · have : ∀ (r t : List Slot), K3 t → K3 (r.foldl (fun t s => if s.st = 1 then layL t s.key s.val else t) t) := by
      intro r
      induction r with
      | nil => intro t ht; exact ht
      | cons x r ih =>
        intro t ht
        simp only [List.foldl_cons]
        refine ih _ ?_
        split
        · exact ht.lay
        · exact ht
    refine this _ _ ?_
    intro s hs
    obtain ⟨_, rfl⟩ := List.mem_replicate.1 hs
    exact .inl rfl
  · have : ∀ (r t : List Slot), (r.foldl (fun t s => if s.st = 1 then layL t s.key s.val else t) t).length = t.length := by
      intro r
      induction r with
      | nil => intro t; rfl
      | cons x r ih =>
        intro t
        simp only [List.foldl_cons]
        rw [ih]
        split
        · exact layL_length
        · rfl
    unfold fillT
    rw [this]
    simp
theorem fillT_new {l : List Slot} (h : validB l = true) (hs : sizeL (cnt 1 l) ≤ 64) {i : Nat} {x : Slot} (hx : l[i]? = some x) (h1 : x.st = 1) : (findL (fillT l i) x.key).2 = false := by
  obtain ⟨a, _, _, b⟩ := fillT_ok h hs i
  cases hf : (findL (fillT l i) x.key).2 with
  | false => rfl
  | true =>
    obtain ⟨v, hv⟩ := a.found_iff.1 hf
    obtain ⟨s, hm, s1, s2, _⟩ := (b _ _).1 hv
    obtain ⟨j, hj⟩ := List.getElem?_of_mem hm
    rw [List.getElem?_take] at hj
    split at hj
    · have hp := (valid_pair h).2
      rw [List.pairwise_iff_getElem] at hp
      obtain ⟨z1, e1⟩ := List.getElem?_eq_some_iff.1 hj
      obtain ⟨z2, e2⟩ := List.getElem?_eq_some_iff.1 hx
      have := hp j i z1 z2 (by omega)
      rw [e1, e2] at this
      exact absurd s2 (this s1 h1)
    · cases hj
theorem refPut_tail {m M : Mem} {fr : Frame} {u : V} {l : List Slot} {key val : Int} {T R : Nat} (f1 : fr 1 = .int .u64 key) (f2 : fr 2 = .int .u64 val) (f3 : fr 3 = .ptr T 0 0) (f6 : fr 6 = .ptr R 0 0) (hT : M[T]? = some (.cells true [[u]])) (hR : M[R]? = some (.cells true [[.nils]])) (hu : Sl M u 3 (encs l)) (hg : Grow m M) (hmT : m.length ≤ T) (hmR : m.length ≤ R) (hTR : T ≠ R) (hval : validB l = true) (hk : key ≠ 0) (hnd : needL l key = true) (hnf : ∀ v, ¬ Has l key v) :
    W S ref10_Put_j0 fr M (bodyQ [.cell 6 (some 1), .t 7] (fun r m' => ∃ v', r = .tup [.agg [v'], .int .i64 (putL l key val).2] ∧ Grow m m' ∧ Sl m' v' 3 (encs (putL l key val).1))) := by
  have h64 := valid_len hval
  have huc := hu.cell
  have hlen : (encs l).length = l.length := by simp
  have hca := cnt_add (l := l)
  have hu63 : cnt 1 l ≤ 63 := by rcases valid_cases hval with h | ⟨_, h⟩ <;> omega
  have hsc := sizeL_cases (cnt 1 l)
  unfold ref10_Put_j0
  simp (maxDischargeDepth := 30) only [f1, f2, f3, f6, amL, args0, Nat.reduceEqDiff, reduceCtorEq, ↓reduceIte, Nat.reduceAdd, resultsA, results1, Int.reduceNeg, splice, Nat.reduceLeDiff, part, fillA, fillE, Nat.reduceLT]
  let I := fun (n : Nat) (fr : Frame) (M' : Mem) => ∃ s : Nat, (s = 8 ∨ s = 16 ∨ s = 32 ∨ s = 64 ∨ s = 128) ∧ n = 128 - s ∧ s ≤ sizeL (cnt 1 l) ∧ fr 1 = .int .u64 key ∧ fr 2 = .int .u64 val ∧ fr 3 = .ptr T 0 0 ∧ fr 6 = .ptr R 0 0 ∧ fr 11 = .int .i64 s ∧ Grow M M'
  refine W_loop I ?_ 120 ?_
  · rintro n fr M1 ⟨s, hs, rfl, hsz, f1, f2, f3, f6, f11, hg1⟩
    unfold ref10_Put_l0
    have hT1 := hg1.get hT
    have hR1 := hg1.get hR
    simp (maxDischargeDepth := 30) only [f1, f2, f3, f6, f11, load_at0 hT1, amL, args0, Nat.reduceEqDiff, reduceCtorEq, ↓reduceIte, Nat.reduceAdd, resultsA, results1, Int.reduceNeg, splice, Nat.reduceLeDiff, part, fillA, fillE, Nat.reduceLT]
    refine (refMany_spec 1 (hu.grow hg1) (by omega)).mono ?_
    rintro _ M2 ⟨rfl, hg2⟩
    have hg12 := hg1.trans hg2
    have hT2 := hg12.get hT
    have hR2 := hg12.get hR
    have hu2 := hu.grow hg12
    have w1 : IntKind.i64.wrap ((cnt 1 l : Int) + 1) = ((cnt 1 l + 1 : Nat) : Int) := by rw [wrap_i64] <;> omega
    have w2 : IntKind.i64.wrap (2 * ((cnt 1 l + 1 : Nat) : Int)) = ((2 * (cnt 1 l + 1) : Nat) : Int) := by rw [wrap_i64] <;> omega
    simp (maxDischargeDepth := 30) only [aft_mk, f11, w1, w2, amL, args0, Nat.reduceEqDiff, reduceCtorEq, ↓reduceIte, Nat.reduceAdd, resultsA, results1, Int.reduceNeg, splice, Nat.reduceLeDiff, part, fillA, fillE, Nat.reduceLT]
    first | (refine O_split (by simp only [put_apply, Nat.reduceEqDiff, ↓reduceIte, reduceCtorEq]; rfl) (fun h => ?_) (fun h => ?_) <;> simp only [decide_eq_true_eq, decide_eq_false_iff_not, Decidable.not_not, Bool.and_eq_true, Bool.not_eq_true', Bool.not_eq_false'] at h) | (refine W_split (by simp only [get_t, put_apply, Nat.reduceEqDiff, ↓reduceIte, reduceCtorEq]; rfl) (fun h => ?_) (fun h => ?_) <;> simp only [decide_eq_true_eq, decide_eq_false_iff_not, Decidable.not_not, Bool.and_eq_true, Bool.not_eq_true', Bool.not_eq_false'] at h)
    · have w3 : IntKind.i64.wrap ((s : Int) * 2) = ((s * 2 : Nat) : Int) := by rw [wrap_i64] <;> omega
      simp (maxDischargeDepth := 30) only [h, f1, f2, f3, f6, f11, w3, amL, args0, Nat.reduceEqDiff, reduceCtorEq, ↓reduceIte, Nat.reduceAdd, resultsA, results1, Int.reduceNeg, splice, Nat.reduceLeDiff, part, fillA, fillE, Nat.reduceLT]
      refine ⟨128 - s * 2, ?_, s * 2, ?_, rfl, ?_, ?_, ?_, ?_, ?_, ?_, hg12⟩
      · omega
      · omega
      · omega
      all_goals simp (maxDischargeDepth := 30) only [f1, f2, f3, f6, amL, args0, Nat.reduceEqDiff, reduceCtorEq, ↓reduceIte, Nat.reduceAdd, resultsA, results1, Int.reduceNeg, splice, Nat.reduceLeDiff, part, fillA, fillE, Nat.reduceLT]
    · have hss : sizeL (cnt 1 l) = s := by omega
      simp (maxDischargeDepth := 30) only [h, f1, f2, f3, f6, f11, amL, args0, Nat.reduceEqDiff, reduceCtorEq, ↓reduceIte, Nat.reduceAdd, resultsA, results1, Int.reduceNeg, splice, Nat.reduceLeDiff, part, fillA, fillE, Nat.reduceLT]
      by_cases h2 : 64 < (s : Int)
      · have hput : putL l key val = (l, 6) := by simp [putL, hval, hk, hnd, hss]; omega
        have s1 := store_at0 (x := .agg [u]) (j := 0) (n := 1) hR2 rfl (by simp) (by simp [cells_agg, huc])
        have hRl := (List.getElem?_eq_some_iff.1 hR2).1
        have l2 := fun k => load_set0 (M := M2) (b := R) (own := true) (el := [u]) (k := k) (j := 0) hRl
        simp only [cells_agg, splice, List.take_zero, List.nil_append, List.cons_append, List.length_cons, List.length_nil, Nat.zero_add, List.drop_succ_cons, List.drop_nil] at s1
        simp (maxDischargeDepth := 30) only [h2, f1, f2, f3, f6, load_at0 hT2, s1, l2, amL, args0, Nat.reduceEqDiff, reduceCtorEq, ↓reduceIte, Nat.reduceAdd, resultsA, results1, Int.reduceNeg, splice, Nat.reduceLeDiff, part, fillA, fillE, Nat.reduceLT]
        rw [hput]
        exact ⟨u, rfl, (hg.trans hg12).set hmR _, hu2.set_other encs_z hR2 (by simp) rfl⟩
      have h64' : s ≤ 64 := by omega
      have hs64 : sizeL (cnt 1 l) ≤ 64 := by omega
      have rm : 0 ≤ (s : Int) ∧ (s : Int) ≤ s ∧ roomy (s : Int).toNat 24 = true := by simp [roomy]; omega
      have rm' : roomy s 24 = true := by simpa using rm.2.2
      simp (maxDischargeDepth := 30) only [h2, f1, f2, f3, f6, f11, rm, rm', amL, args0, Nat.reduceEqDiff, reduceCtorEq, ↓reduceIte, Nat.reduceAdd, resultsA, results1, Int.reduceNeg, splice, Nat.reduceLeDiff, part, fillA, fillE, Nat.reduceLT]
      have hzz : List.replicate s [V.int .u8 0, V.int .u64 0, V.int .u64 0] = encs (List.replicate s zeroS) := by simp [enc, zeroS]
      rw [hzz]
      have hX : ∀ x : Blk, (M2 ++ [x])[M2.length]? = some x := fun x => by simp
      generalize hM3 : M2 ++ [Blk.cells true (encs (List.replicate s zeroS))] ++ [Blk.cells true [[V.slice M2.length 0 s s true 3]]] = M3
      have hxl : (M2 ++ [Blk.cells true (encs (List.replicate s zeroS))]).length = M2.length + 1 := by simp
      have hg3 : Grow M2 M3 := by rw [← hM3]; exact (Grow.refl _).app.app
      have hB3 : M3[M2.length]? = some (.cells true (encs (fillT l 0))) := by
        rw [← hM3]
        have : fillT l 0 = List.replicate s zeroS := by unfold fillT; rw [hss]; rfl
        rw [this]
        exact getElem?_grow (by simp)
      have hX3 : M3[M2.length + 1]? = some (.cells true [[V.slice M2.length 0 s s true 3]]) := by
        rw [← hM3, ← hxl]; exact List.getElem?_concat_length
      have hT3 := hg3.get hT2
      have hR3 := hg3.get hR2
      have hu3 := hu2.grow hg3
      have hgm3 := (hg.trans hg12).trans hg3
      have hM2l := (List.getElem?_eq_some_iff.1 hT2).1
      have hRl2 := (List.getElem?_eq_some_iff.1 hR2).1
      simp (maxDischargeDepth := 30) only [f1, f2, f3, f6, load_at0 hT3, hu.len, hlen, amL, args0, Nat.reduceEqDiff, reduceCtorEq, ↓reduceIte, Nat.reduceAdd, resultsA, results1, Int.reduceNeg, splice, Nat.reduceLeDiff, part, fillA, fillE, Nat.reduceLT]
      let J := fun (n : Nat) (fr : Frame) (M' : Mem) => ∃ i : Nat, i ≤ l.length ∧ n = l.length - i ∧ fr 1 = .int .u64 key ∧ fr 2 = .int .u64 val ∧ fr 6 = .ptr R 0 0 ∧ fr 12 = .ptr (M2.length + 1) 0 0 ∧ fr 67 = u ∧ fr 68 = .int .i64 l.length ∧ fr 69 = .int .i64 i ∧ Grow M2 M' ∧ M'[M2.length]? = some (.cells true (encs (fillT l i))) ∧ M'[M2.length + 1]? = some (.cells true [[V.slice M2.length 0 s s true 3]])
      refine W_loop J ?_ l.length ?_
      · rintro n fr M4 ⟨i, hi, rfl, f1, f2, f6, f12, f67, f68, f69, hg4, hB4, hX4⟩
        obtain ⟨ok, k3, fl, _⟩ := fillT_ok hval hs64 i
        rw [hss] at fl
        have hu4 := hu2.grow hg4
        unfold ref10_Put_l1
        simp (maxDischargeDepth := 30) only [f1, f2, f6, f12, f67, f68, f69, amL, args0, Nat.reduceEqDiff, reduceCtorEq, ↓reduceIte, Nat.reduceAdd, resultsA, results1, Int.reduceNeg, splice, Nat.reduceLeDiff, part, fillA, fillE, Nat.reduceLT]
        first | (refine O_split (by simp only [put_apply, Nat.reduceEqDiff, ↓reduceIte, reduceCtorEq]; rfl) (fun h => ?_) (fun h => ?_) <;> simp only [decide_eq_true_eq, decide_eq_false_iff_not, Decidable.not_not, Bool.and_eq_true, Bool.not_eq_true', Bool.not_eq_false'] at h) | (refine W_split (by simp only [get_t, put_apply, Nat.reduceEqDiff, ↓reduceIte, reduceCtorEq]; rfl) (fun h => ?_) (fun h => ?_) <;> simp only [decide_eq_true_eq, decide_eq_false_iff_not, Decidable.not_not, Bool.and_eq_true, Bool.not_eq_true', Bool.not_eq_false'] at h)
        · have hil : i < l.length := by omega
          obtain ⟨x, hx⟩ : ∃ x, l[i]? = some x := ⟨_, List.getElem?_eq_getElem hil⟩
          have ix := hu4.index (ki := .i64) (n := i) (by omega) (by omega)
          have ld := fun o k => hu4.load (o := o) (k := k) (encs_get hx)
          simp only [Int.toNat_natCast, enc] at ix ld
          have w3 : IntKind.i64.wrap ((i : Int) + 1) = ((i + 1 : Nat) : Int) := by rw [wrap_i64] <;> omega
          by_cases c1 : x.st = 1
          · have hnew := fillT_new hval hs64 hx c1
            obtain ⟨p, hp1, hp2⟩ := find_first ok.pow ok.free k3 hnew
            have hX5 : (M4 ++ [Blk.cells true [[V.int .u8 1, V.int .u64 x.key, V.int .u64 x.val]]])[M2.length + 1]? = some (.cells true [[V.slice M2.length 0 s s true 3]]) := getElem?_grow hX4
            have hB5 : (M4 ++ [Blk.cells true [[V.int .u8 1, V.int .u64 x.key, V.int .u64 x.val]]])[M2.length]? = some (.cells true (encs (fillT l i))) := getElem?_grow hB4
            have hlay := refLay_spec (cap := s) (ex := true) x.key x.val hB5 ok.pow hp2
            rw [fl] at hlay
            have hla : (fillT l i).set ((G.hk (fillT l i) x.key + p) % s) ⟨1, x.key, x.val⟩ = fillT l (i + 1) := by
              rw [fillT_succ hx, if_pos c1]
              unfold layL
              rw [hp1, fl]
            rw [hla] at hlay
            simp (maxDischargeDepth := 30) only [h, f1, f2, f6, f12, f67, f68, f69, ix, ld, c1, load_at0 hX5, amL, args0, Nat.reduceEqDiff, reduceCtorEq, ↓reduceIte, Nat.reduceAdd, resultsA, results1, Int.reduceNeg, splice, Nat.reduceLeDiff, part, fillA, fillE, Nat.reduceLT]
            refine hlay.mono ?_
            rintro _ M6 ⟨rfl, hg6⟩
            have hbl5 := (List.getElem?_eq_some_iff.1 hB5).1
            have hX6 : M6[M2.length + 1]? = some (.cells true [[V.slice M2.length 0 s s true 3]]) := hg6.get (by rw [List.getElem?_set_ne (by omega)]; exact hX5)
            have hB6 : M6[M2.length]? = some (.cells true (encs (fillT l (i + 1)))) := hg6.get (List.getElem?_set_self hbl5)
            have hgM6 : Grow M2 M6 := (hg4.app.set (Nat.le_refl _) _).trans hg6
            have s1 := store_at0 (x := .agg [V.slice M2.length 0 s s true 3]) (j := 0) (n := 1) hX6 rfl (by simp) rfl
            have hXl := (List.getElem?_eq_some_iff.1 hX6).1
            simp only [cells_agg, splice, List.take_zero, List.nil_append, List.cons_append, List.length_cons, List.length_nil, Nat.zero_add, List.drop_succ_cons, List.drop_nil] at s1
            simp (maxDischargeDepth := 30) only [aft_mk, f1, f2, f6, f12, f67, f68, f69, s1, w3, amL, args0, Nat.reduceEqDiff, reduceCtorEq, ↓reduceIte, Nat.reduceAdd, resultsA, results1, Int.reduceNeg, splice, Nat.reduceLeDiff, part, fillA, fillE, Nat.reduceLT]
            refine ⟨_, ?_, i + 1, by omega, rfl, ?_, ?_, ?_, ?_, ?_, ?_, ?_, hgM6.set (by omega) _, ?_, List.getElem?_set_self hXl⟩
            · omega
            · simp (maxDischargeDepth := 30) only [f1, amL, args0, Nat.reduceEqDiff, reduceCtorEq, ↓reduceIte, Nat.reduceAdd, resultsA, results1, Int.reduceNeg, splice, Nat.reduceLeDiff, part, fillA, fillE, Nat.reduceLT]
            · simp (maxDischargeDepth := 30) only [f2, amL, args0, Nat.reduceEqDiff, reduceCtorEq, ↓reduceIte, Nat.reduceAdd, resultsA, results1, Int.reduceNeg, splice, Nat.reduceLeDiff, part, fillA, fillE, Nat.reduceLT]
            · simp (maxDischargeDepth := 30) only [f6, amL, args0, Nat.reduceEqDiff, reduceCtorEq, ↓reduceIte, Nat.reduceAdd, resultsA, results1, Int.reduceNeg, splice, Nat.reduceLeDiff, part, fillA, fillE, Nat.reduceLT]
            · simp (maxDischargeDepth := 30) only [f12, amL, args0, Nat.reduceEqDiff, reduceCtorEq, ↓reduceIte, Nat.reduceAdd, resultsA, results1, Int.reduceNeg, splice, Nat.reduceLeDiff, part, fillA, fillE, Nat.reduceLT]
            · simp (maxDischargeDepth := 30) only [f67, amL, args0, Nat.reduceEqDiff, reduceCtorEq, ↓reduceIte, Nat.reduceAdd, resultsA, results1, Int.reduceNeg, splice, Nat.reduceLeDiff, part, fillA, fillE, Nat.reduceLT]
            · simp (maxDischargeDepth := 30) only [f68, amL, args0, Nat.reduceEqDiff, reduceCtorEq, ↓reduceIte, Nat.reduceAdd, resultsA, results1, Int.reduceNeg, splice, Nat.reduceLeDiff, part, fillA, fillE, Nat.reduceLT]
            · simp (maxDischargeDepth := 30) only [amL, args0, Nat.reduceEqDiff, reduceCtorEq, ↓reduceIte, Nat.reduceAdd, resultsA, results1, Int.reduceNeg, splice, Nat.reduceLeDiff, part, fillA, fillE, Nat.reduceLT]
            · rw [List.getElem?_set_ne (by omega)]; exact hB6
          · simp (maxDischargeDepth := 30) only [h, f1, f2, f6, f12, f67, f68, f69, ix, ld, c1, w3, amL, args0, Nat.reduceEqDiff, reduceCtorEq, ↓reduceIte, Nat.reduceAdd, resultsA, results1, Int.reduceNeg, splice, Nat.reduceLeDiff, part, fillA, fillE, Nat.reduceLT]
            refine ⟨_, ?_, i + 1, by omega, rfl, ?_, ?_, ?_, ?_, ?_, ?_, ?_, hg4.app, ?_, getElem?_grow hX4⟩
            · omega
            · simp (maxDischargeDepth := 30) only [f1, amL, args0, Nat.reduceEqDiff, reduceCtorEq, ↓reduceIte, Nat.reduceAdd, resultsA, results1, Int.reduceNeg, splice, Nat.reduceLeDiff, part, fillA, fillE, Nat.reduceLT]
            · simp (maxDischargeDepth := 30) only [f2, amL, args0, Nat.reduceEqDiff, reduceCtorEq, ↓reduceIte, Nat.reduceAdd, resultsA, results1, Int.reduceNeg, splice, Nat.reduceLeDiff, part, fillA, fillE, Nat.reduceLT]
            · simp (maxDischargeDepth := 30) only [f6, amL, args0, Nat.reduceEqDiff, reduceCtorEq, ↓reduceIte, Nat.reduceAdd, resultsA, results1, Int.reduceNeg, splice, Nat.reduceLeDiff, part, fillA, fillE, Nat.reduceLT]
            · simp (maxDischargeDepth := 30) only [f12, amL, args0, Nat.reduceEqDiff, reduceCtorEq, ↓reduceIte, Nat.reduceAdd, resultsA, results1, Int.reduceNeg, splice, Nat.reduceLeDiff, part, fillA, fillE, Nat.reduceLT]
            · simp (maxDischargeDepth := 30) only [f67, amL, args0, Nat.reduceEqDiff, reduceCtorEq, ↓reduceIte, Nat.reduceAdd, resultsA, results1, Int.reduceNeg, splice, Nat.reduceLeDiff, part, fillA, fillE, Nat.reduceLT]
            · simp (maxDischargeDepth := 30) only [f68, amL, args0, Nat.reduceEqDiff, reduceCtorEq, ↓reduceIte, Nat.reduceAdd, resultsA, results1, Int.reduceNeg, splice, Nat.reduceLeDiff, part, fillA, fillE, Nat.reduceLT]
            · simp (maxDischargeDepth := 30) only [amL, args0, Nat.reduceEqDiff, reduceCtorEq, ↓reduceIte, Nat.reduceAdd, resultsA, results1, Int.reduceNeg, splice, Nat.reduceLeDiff, part, fillA, fillE, Nat.reduceLT]
            · rw [fillT_succ hx, if_neg c1]; exact getElem?_grow hB4
        · have : i = l.length := by omega
          subst this
          rw [fillT_all] at ok k3 fl hB4
          have hput : putL l key val = (layL (anewL l) key val, 0) := by simp [putL, hval, hk, hnd, hs64]
          obtain ⟨_, ahas⟩ := valid_anew hval hs64
          have hnew : (findL (anewL l) key).2 = false := by
            cases hf : (findL (anewL l) key).2 with
            | false => rfl
            | true =>
              obtain ⟨v, hv⟩ := ok.found_iff.1 hf
              exact absurd ((ahas _ _).1 hv) (hnf v)
          obtain ⟨p, hp1, hp2⟩ := find_first ok.pow ok.free k3 hnew
          have hlay := refLay_spec (cap := s) (ex := true) key val hB4 ok.pow hp2
          rw [fl] at hlay
          have hla : (anewL l).set ((G.hk (anewL l) key + p) % s) ⟨1, key, val⟩ = layL (anewL l) key val := by
            unfold layL
            rw [hp1, fl]
          rw [hla] at hlay
          simp (maxDischargeDepth := 30) only [h, f1, f2, f6, f12, f67, f68, f69, load_at0 hX4, amL, args0, Nat.reduceEqDiff, reduceCtorEq, ↓reduceIte, Nat.reduceAdd, resultsA, results1, Int.reduceNeg, splice, Nat.reduceLeDiff, part, fillA, fillE, Nat.reduceLT]
          refine hlay.mono ?_
          rintro _ M6 ⟨rfl, hg6⟩
          have hbl4 := (List.getElem?_eq_some_iff.1 hB4).1
          have hR6 : M6[R]? = some (.cells true [[.nils]]) := hg6.get (by rw [List.getElem?_set_ne (by omega)]; exact hg4.get hR2)
          have hB6 : M6[M2.length]? = some (.cells true (encs (layL (anewL l) key val))) := hg6.get (List.getElem?_set_self hbl4)
          have hgM6 : Grow M2 M6 := (hg4.set (Nat.le_refl _) _).trans hg6
          have s1 := store_at0 (x := .agg [V.slice M2.length 0 s s true 3]) (j := 0) (n := 1) hR6 rfl (by simp) rfl
          have hRl := (List.getElem?_eq_some_iff.1 hR6).1
          have l2 := fun k => load_set0 (M := M6) (b := R) (own := true) (el := [V.slice M2.length 0 s s true 3]) (k := k) (j := 0) hRl
          simp only [cells_agg, splice, List.take_zero, List.nil_append, List.cons_append, List.length_cons, List.length_nil, Nat.zero_add, List.drop_succ_cons, List.drop_nil] at s1
          simp (maxDischargeDepth := 30) only [aft_mk, f1, f2, f6, f12, f67, f68, f69, s1, l2, amL, args0, Nat.reduceEqDiff, reduceCtorEq, ↓reduceIte, Nat.reduceAdd, resultsA, results1, Int.reduceNeg, splice, Nat.reduceLeDiff, part, fillA, fillE, Nat.reduceLT]
          rw [hput]
          have e3 : (encs (layL (anewL l) key val)).length = s := by simp [layL_length, fl]
          have hsl6 := Sl.mk (cap := s) (ex := true) (z := 3) hB6
          rw [e3] at hsl6
          exact ⟨_, rfl, ((hg.trans hg12).trans hgM6).set hmR _, hsl6.set_other encs_z hR6 (by simp) rfl⟩
      · refine ⟨0, by omega, rfl, by simp (maxDischargeDepth := 30) only [f1, amL, args0, Nat.reduceEqDiff, reduceCtorEq, ↓reduceIte, Nat.reduceAdd, resultsA, results1, Int.reduceNeg, splice, Nat.reduceLeDiff, part, fillA, fillE, Nat.reduceLT], by simp (maxDischargeDepth := 30) only [f2, amL, args0, Nat.reduceEqDiff, reduceCtorEq, ↓reduceIte, Nat.reduceAdd, resultsA, results1, Int.reduceNeg, splice, Nat.reduceLeDiff, part, fillA, fillE, Nat.reduceLT], by simp (maxDischargeDepth := 30) only [f6, amL, args0, Nat.reduceEqDiff, reduceCtorEq, ↓reduceIte, Nat.reduceAdd, resultsA, results1, Int.reduceNeg, splice, Nat.reduceLeDiff, part, fillA, fillE, Nat.reduceLT], by simp (maxDischargeDepth := 30) only [hxl, amL, args0, Nat.reduceEqDiff, reduceCtorEq, ↓reduceIte, Nat.reduceAdd, resultsA, results1, Int.reduceNeg, splice, Nat.reduceLeDiff, part, fillA, fillE, Nat.reduceLT], by simp (maxDischargeDepth := 30) only [amL, args0, Nat.reduceEqDiff, reduceCtorEq, ↓reduceIte, Nat.reduceAdd, resultsA, results1, Int.reduceNeg, splice, Nat.reduceLeDiff, part, fillA, fillE, Nat.reduceLT], by simp (maxDischargeDepth := 30) only [amL, args0, Nat.reduceEqDiff, reduceCtorEq, ↓reduceIte, Nat.reduceAdd, resultsA, results1, Int.reduceNeg, splice, Nat.reduceLeDiff, part, fillA, fillE, Nat.reduceLT], by simp (maxDischargeDepth := 30) only [amL, args0, Nat.reduceEqDiff, reduceCtorEq, ↓reduceIte, Nat.reduceAdd, resultsA, results1, Int.reduceNeg, splice, Nat.reduceLeDiff, part, fillA, fillE, Nat.reduceLT]; rfl, hg3, hB3, hX3⟩
  · refine ⟨8, by omega, by omega, ?_, by simp (maxDischargeDepth := 30) only [f1, amL, args0, Nat.reduceEqDiff, reduceCtorEq, ↓reduceIte, Nat.reduceAdd, resultsA, results1, Int.reduceNeg, splice, Nat.reduceLeDiff, part, fillA, fillE, Nat.reduceLT], by simp (maxDischargeDepth := 30) only [f2, amL, args0, Nat.reduceEqDiff, reduceCtorEq, ↓reduceIte, Nat.reduceAdd, resultsA, results1, Int.reduceNeg, splice, Nat.reduceLeDiff, part, fillA, fillE, Nat.reduceLT], by simp (maxDischargeDepth := 30) only [f3, amL, args0, Nat.reduceEqDiff, reduceCtorEq, ↓reduceIte, Nat.reduceAdd, resultsA, results1, Int.reduceNeg, splice, Nat.reduceLeDiff, part, fillA, fillE, Nat.reduceLT], by simp (maxDischargeDepth := 30) only [f6, amL, args0, Nat.reduceEqDiff, reduceCtorEq, ↓reduceIte, Nat.reduceAdd, resultsA, results1, Int.reduceNeg, splice, Nat.reduceLeDiff, part, fillA, fillE, Nat.reduceLT], by simp (maxDischargeDepth := 30) only [amL, args0, Nat.reduceEqDiff, reduceCtorEq, ↓reduceIte, Nat.reduceAdd, resultsA, results1, Int.reduceNeg, splice, Nat.reduceLeDiff, part, fillA, fillE, Nat.reduceLT]; rfl, Grow.refl _⟩
    omega
end Go.AM.G
