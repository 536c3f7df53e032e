/- Part of the proof: contracts of functions of the given program on an abstract machine. -/
import Derived.Test.YtdfbfcohindpnaaEphemR1
set_option linter.unusedVariables false
set_option linter.unusedSimpArgs false
set_option maxRecDepth 100000
namespace Go.AM.G
open Go Go.AM
theorem rf_valid {l : List Slot} {key : Int} (h : validB l = true) : ((findL l key).2 = true ∧ rf key l 0 = ((findL l key).1 : Int)) ∨ ((findL l key).2 = false ∧ rf key l 0 = -1 ∧ ∀ v, ¬ Has l key v) := by
  rcases rf_cases key l 0 with ⟨e, hn⟩ | ⟨j, s, e, hj, a, b, _⟩
  · have hno : ∀ v, ¬ Has l key v := by
      intro v hv
      obtain ⟨s, hs, h1, h2, _⟩ := has_iff.1 hv
      exact hn s hs ⟨h1, h2⟩
    refine .inr ⟨?_, e, hno⟩
    cases hf : (findL l key).2 with
    | false => rfl
    | true =>
      have hl : ¬ l.length = 0 := by intro h0; simp [findL, h0] at hf
      obtain ⟨h1, _⟩ := (valid_iff.1 h).resolve_left hl
      obtain ⟨v, hv⟩ := h1.found_iff.1 hf
      exact absurd hv (hno v)
  · have hl : ¬ l.length = 0 := by have := (List.getElem?_eq_some_iff.1 hj).1; omega
    obtain ⟨h1, _⟩ := (valid_iff.1 h).resolve_left hl
    have := (h1.find hj a).1
    rw [b] at this
    rw [this, e]
    exact .inl ⟨rfl, by simp⟩
def fillT (l : List Slot) (i : Nat) : List Slot := (l.take i).foldl (fun t s => if s.st = 1 then layL t s.key s.val else t) (List.replicate (sizeL (cnt 1 l)) zeroS)
theorem fillT_succ {l : List Slot} {i : Nat} {x : Slot} (hx : l[i]? = some x) : fillT l (i + 1) = if x.st = 1 then layL (fillT l i) x.key x.val else fillT l i := by
  obtain ⟨a1, e1⟩ := List.getElem?_eq_some_iff.1 hx
  unfold fillT
  rw [List.take_succ_eq_append_getElem a1, e1, List.foldl_append]
  rfl
theorem fillT_all {l : List Slot} : fillT l l.length = anewL l := by unfold fillT anewL; rw [List.take_length]
theorem fillT_ok {l : List Slot} (h : validB l = true) (hs : sizeL (cnt 1 l) ≤ 64) (i : Nat) : okT (fillT l i) ∧ K3 (fillT l i) ∧ (fillT l i).length = sizeL (cnt 1 l) ∧ ∀ k v, Has (fillT l i) k v ↔ ∃ s ∈ l.take i, s.st = 1 ∧ s.key = k ∧ s.val = v := by
  have hc := sizeL_cases (cnt 1 l)
  have hp : Pow (sizeL (cnt 1 l) : Nat) := by unfold Pow; omega
  obtain ⟨h1, h2⟩ := valid_pair h
  have h0 : ∀ k v, ¬ Has (List.replicate (sizeL (cnt 1 l)) zeroS) k v := by
    rintro k v ⟨j, s, hj, a, _⟩
    simp only [List.getElem?_replicate, Option.ite_none_right_eq_some, Option.some.injEq] at hj
    rw [← hj.2] at a
    simp [zeroS] at a
  have he : cnt 0 (List.replicate (sizeL (cnt 1 l)) zeroS) = sizeL (cnt 1 l) := by simp [cnt, zeroS, List.countP_replicate]
  have hcl : cnt 1 (l.take i) ≤ cnt 1 l := List.Sublist.countP_le (List.take_sublist i l)
  obtain ⟨a, b⟩ := anew_fold (l.take i) _ (okT_zero hp) (by rw [he]; omega) (fun s hs => h1 s (List.mem_of_mem_take hs)) (h2.sublist (List.take_sublist i l)) (fun s _ _ => h0 s.key)
  refine ⟨a, ?_, ?_, fun k v => (b k v).trans ⟨fun hh => hh.resolve_left (h0 k v), .inr⟩⟩
  · have : ∀ (r t : List Slot), K3 t → K3 (r.foldl (fun t s => if s.st = 1 then layL t s.key s.val else t) t) := by
      intro r
      induction r with
      | nil => intro t ht; exact ht
      | cons x r ih =>
        intro t ht
        simp only [List.foldl_cons]
        refine ih _ ?_
        split
        · exact ht.lay
        · exact ht
    refine this _ _ ?_
    intro s hs
    obtain ⟨_, rfl⟩ := List.mem_replicate.1 hs
    exact .inl rfl
  · have : ∀ (r t : List Slot), (r.foldl (fun t s => if s.st = 1 then layL t s.key s.val else t) t).length = t.length := by
      intro r
      induction r with
      | nil => intro t; rfl
      | cons x r ih =>
        intro t
        simp only [List.foldl_cons]
        rw [ih]
        split
        · exact layL_length
        · rfl
    unfold fillT
    rw [this]
    simp
theorem fillT_new {l : List Slot} (h : validB l = true) (hs : sizeL (cnt 1 l) ≤ 64) {i : Nat} {x : Slot} (hx : l[i]? = some x) (h1 : x.st = 1) : (findL (fillT l i) x.key).2 = false := by
  obtain ⟨a, _, _, b⟩ := fillT_ok h hs i
  cases hf : (findL (fillT l i) x.key).2 with
  | false => rfl
  | true =>
    obtain ⟨v, hv⟩ := a.found_iff.1 hf
    obtain ⟨s, hm, s1, s2, _⟩ := (b _ _).1 hv
    obtain ⟨j, hj⟩ := List.getElem?_of_mem hm
    rw [List.getElem?_take] at hj
    split at hj
    · have hp := (valid_pair h).2
      rw [List.pairwise_iff_getElem] at hp
      obtain ⟨z1, e1⟩ := List.getElem?_eq_some_iff.1 hj
      obtain ⟨z2, e2⟩ := List.getElem?_eq_some_iff.1 hx
      have := hp j i z1 z2 (by omega)
      rw [e1, e2] at this
      exact absurd s2 (this s1 h1)
    · cases hj
theorem refPut_tail {m M : Mem} {fr : Frame} {u : V} {l : List Slot} {key val : Int} {T R : Nat} (f1 : fr 1 = .int .u64 key) (f2 : fr 2 = .int .u64 val) (f3 : fr 3 = .ptr T 0 0) (f6 : fr 6 = .ptr R 0 0) (hT : M[T]? = some (.cells true [[u]])) (hR : M[R]? = some (.cells true [[.nils]])) (hu : Sl M u 3 (encs l)) (hg : Grow m M) (hmT : m.length ≤ T) (hmR : m.length ≤ R) (hTR : T ≠ R) (hval : validB l = true) (hk : key ≠ 0) (hnd : needL l key = true) (hnf : ∀ v, ¬ Has l key v) :
    W S ref10_Put_j0 fr M (bodyQ [.cell 6 (some 1), .t 7] (fun r m' => ∃ v', r = .tup [.agg [v'], .int .i64 (putL l key val).2] ∧ Grow m m' ∧ Sl m' v' 3 (encs (putL l key val).1))) := by
  have h64 := valid_len hval
  have huc := hu.cell
  have hlen : (encs l).length = l.length := by simp
  have hca := cnt_add (l := l)
  have hu63 : cnt 1 l ≤ 63 := by rcases valid_cases hval with h | ⟨_, h⟩ <;> omega
  have hsc := sizeL_cases (cnt 1 l)
  unfold ref10_Put_j0
  simp (maxDischargeDepth := 30) only [f1, f2, f3, f6, amL, args0, Nat.reduceEqDiff, reduceCtorEq, ↓reduceIte, Nat.reduceAdd, resultsA, results1, Int.reduceNeg, splice, Nat.reduceLeDiff, part, fillA, fillE, Nat.reduceLT]
  let I := fun (n : Nat) (fr : Frame) (M' : Mem) => ∃ s : Nat, (s = 8 ∨ s = 16 ∨ s = 32 ∨ s = 64 ∨ s = 128) ∧ n = 128 - s ∧ s ≤ sizeL (cnt 1 l) ∧ fr 1 = .int .u64 key ∧ fr 2 = .int .u64 val ∧ fr 3 = .ptr T 0 0 ∧ fr 6 = .ptr R 0 0 ∧ fr 11 = .int .i64 s ∧ Grow M M'
  refine W_loop I ?_ 120 ?_
  · rintro n fr M1 ⟨s, hs, rfl, hsz, f1, f2, f3, f6, f11, hg1⟩
    unfold ref10_Put_l0
    have hT1 := hg1.get hT
    have hR1 := hg1.get hR
    simp (maxDischargeDepth := 30) only [f1, f2, f3, f6, f11, load_at0 hT1, amL, args0, Nat.reduceEqDiff, reduceCtorEq, ↓reduceIte, Nat.reduceAdd, resultsA, results1, Int.reduceNeg, splice, Nat.reduceLeDiff, part, fillA, fillE, Nat.reduceLT]
    refine (refMany_spec 1 (hu.grow hg1) (by omega)).mono ?_
    rintro _ M2 ⟨rfl, hg2⟩
    have hg12 := hg1.trans hg2
    have hT2 := hg12.get hT
    have hR2 := hg12.get hR
    have hu2 := hu.grow hg12
    have w1 : IntKind.i64.wrap ((cnt 1 l : Int) + 1) = ((cnt 1 l + 1 : Nat) : Int) := by rw [wrap_i64] <;> omega
    have w2 : IntKind.i64.wrap (2 * ((cnt 1 l + 1 : Nat) : Int)) = ((2 * (cnt 1 l + 1) : Nat) : Int) := by rw [wrap_i64] <;> omega
    simp (maxDischargeDepth := 30) only [aft_mk, f11, w1, w2, amL, args0, Nat.reduceEqDiff, reduceCtorEq, ↓reduceIte, Nat.reduceAdd, resultsA, results1, Int.reduceNeg, splice, Nat.reduceLeDiff, part, fillA, fillE, Nat.reduceLT]
    first | (refine O_split (by simp only [put_apply, Nat.reduceEqDiff, ↓reduceIte, reduceCtorEq]; rfl) (fun h => ?_) (fun h => ?_) <;> simp only [decide_eq_true_eq, decide_eq_false_iff_not, Decidable.not_not, Bool.and_eq_true, Bool.not_eq_true', Bool.not_eq_false'] at h) | (refine W_split (by simp only [get_t, put_apply, Nat.reduceEqDiff, ↓reduceIte, reduceCtorEq]; rfl) (fun h => ?_) (fun h => ?_) <;> simp only [decide_eq_true_eq, decide_eq_false_iff_not, Decidable.not_not, Bool.and_eq_true, Bool.not_eq_true', Bool.not_eq_false'] at h)
    · have w3 : IntKind.i64.wrap ((s : Int) * 2) = ((s * 2 : Nat) : Int) := by rw [wrap_i64] <;> omega
      simp (maxDischargeDepth := 30) only [h, f1, f2, f3, f6, f11, w3, amL, args0, Nat.reduceEqDiff, reduceCtorEq, ↓reduceIte, Nat.reduceAdd, resultsA, results1, Int.reduceNeg, splice, Nat.reduceLeDiff, part, fillA, fillE, Nat.reduceLT]
      refine ⟨128 - s * 2, ?_, s * 2, ?_, rfl, ?_, ?_, ?_, ?_, ?_, ?_, hg12⟩
      · omega
      · omega
      · omega
      all_goals simp (maxDischargeDepth := 30) only [f1, f2, f3, f6, amL, args0, Nat.reduceEqDiff, reduceCtorEq, ↓reduceIte, Nat.reduceAdd, resultsA, results1, Int.reduceNeg, splice, Nat.reduceLeDiff, part, fillA, fillE, Nat.reduceLT]
    · have hss : sizeL (cnt 1 l) = s := by omega
      simp (maxDischargeDepth := 30) only [h, f1, f2, f3, f6, f11, amL, args0, Nat.reduceEqDiff, reduceCtorEq, ↓reduceIte, Nat.reduceAdd, resultsA, results1, Int.reduceNeg, splice, Nat.reduceLeDiff, part, fillA, fillE, Nat.reduceLT]
      by_cases h2 : 64 < (s : Int)
      · have hput : putL l key val = (l, 6) := by simp [putL, hval, hk, hnd, hss]; omega
        have s1 := store_at0 (x := .agg [u]) (j := 0) (n := 1) hR2 rfl (by simp) (by simp [cells_agg, huc])
        have hRl := (List.getElem?_eq_some_iff.1 hR2).1
        have l2 := fun k => load_set0 (M := M2) (b := R) (own := true) (el := [u]) (k := k) (j := 0) hRl
        simp only [cells_agg, splice, List.take_zero, List.nil_append, List.cons_append, List.length_cons, List.length_nil, Nat.zero_add, List.drop_succ_cons, List.drop_nil] at s1
        simp (maxDischargeDepth := 30) only [h2, f1, f2, f3, f6, load_at0 hT2, s1, l2, amL, args0, Nat.reduceEqDiff, reduceCtorEq, ↓reduceIte, Nat.reduceAdd, resultsA, results1, Int.reduceNeg, splice, Nat.reduceLeDiff, part, fillA, fillE, Nat.reduceLT]
        rw [hput]
        exact ⟨u, rfl, (hg.trans hg12).set hmR _, hu2.set_other encs_z hR2 (by simp) rfl⟩
      have h64' : s ≤ 64 := by omega
      have hs64 : sizeL (cnt 1 l) ≤ 64 := by omega
      have rm : 0 ≤ (s : Int) ∧ (s : Int) ≤ s ∧ roomy (s : Int).toNat 24 = true := by simp [roomy]; omega
      have rm' : roomy s 24 = true := by simpa using rm.2.2
      simp (maxDischargeDepth := 30) only [h2, f1, f2, f3, f6, f11, rm, rm', amL, args0, Nat.reduceEqDiff, reduceCtorEq, ↓reduceIte, Nat.reduceAdd, resultsA, results1, Int.reduceNeg, splice, Nat.reduceLeDiff, part, fillA, fillE, Nat.reduceLT]
      have hzz : List.replicate s [V.int .u8 0, V.int .u64 0, V.int .u64 0] = encs (List.replicate s zeroS) := by simp [enc, zeroS]
      rw [hzz]
      have hX : ∀ x : Blk, (M2 ++ [x])[M2.length]? = some x := fun x => by simp
      generalize hM3 : M2 ++ [Blk.cells true (encs (List.replicate s zeroS))] ++ [Blk.cells true [[V.slice M2.length 0 s s true 3]]] = M3
      have hxl : (M2 ++ [Blk.cells true (encs (List.replicate s zeroS))]).length = M2.length + 1 := by simp
      have hg3 : Grow M2 M3 := by rw [← hM3]; exact (Grow.refl _).app.app
      have hB3 : M3[M2.length]? = some (.cells true (encs (fillT l 0))) := by
        rw [← hM3]
        have : fillT l 0 = List.replicate s zeroS := by unfold fillT; rw [hss]; rfl
        rw [this]
        exact getElem?_grow (by simp)
      have hX3 : M3[M2.length + 1]? = some (.cells true [[V.slice M2.length 0 s s true 3]]) := by
        rw [← hM3, ← hxl]; exact List.getElem?_concat_length
      have hT3 := hg3.get hT2
      have hR3 := hg3.get hR2
      have hu3 := hu2.grow hg3
      have hgm3 := (hg.trans hg12).trans hg3
      have hM2l := (List.getElem?_eq_some_iff.1 hT2).1
      have hRl2 := (List.getElem?_eq_some_iff.1 hR2).1
      simp (maxDischargeDepth := 30) only [f1, f2, f3, f6, load_at0 hT3, hu.len, hlen, amL, args0, Nat.reduceEqDiff, reduceCtorEq, ↓reduceIte, Nat.reduceAdd, resultsA, results1, Int.reduceNeg, splice, Nat.reduceLeDiff, part, fillA, fillE, Nat.reduceLT]
      let J := fun (n : Nat) (fr : Frame) (M' : Mem) => ∃ i : Nat, i ≤ l.length ∧ n = l.length - i ∧ fr 1 = .int .u64 key ∧ fr 2 = .int .u64 val ∧ fr 6 = .ptr R 0 0 ∧ fr 12 = .ptr (M2.length + 1) 0 0 ∧ fr 67 = u ∧ fr 68 = .int .i64 l.length ∧ fr 69 = .int .i64 i ∧ Grow M2 M' ∧ M'[M2.length]? = some (.cells true (encs (fillT l i))) ∧ M'[M2.length + 1]? = some (.cells true [[V.slice M2.length 0 s s true 3]])
      refine W_loop J ?_ l.length ?_
      · rintro n fr M4 ⟨i, hi, rfl, f1, f2, f6, f12, f67, f68, f69, hg4, hB4, hX4⟩
        obtain ⟨ok, k3, fl, _⟩ := fillT_ok hval hs64 i
        rw [hss] at fl
        have hu4 := hu2.grow hg4
        unfold ref10_Put_l1
        simp (maxDischargeDepth := 30) only [f1, f2, f6, f12, f67, f68, f69, amL, args0, Nat.reduceEqDiff, reduceCtorEq, ↓reduceIte, Nat.reduceAdd, resultsA, results1, Int.reduceNeg, splice, Nat.reduceLeDiff, part, fillA, fillE, Nat.reduceLT]
        first | (refine O_split (by simp only [put_apply, Nat.reduceEqDiff, ↓reduceIte, reduceCtorEq]; rfl) (fun h => ?_) (fun h => ?_) <;> simp only [decide_eq_true_eq, decide_eq_false_iff_not, Decidable.not_not, Bool.and_eq_true, Bool.not_eq_true', Bool.not_eq_false'] at h) | (refine W_split (by simp only [get_t, put_apply, Nat.reduceEqDiff, ↓reduceIte, reduceCtorEq]; rfl) (fun h => ?_) (fun h => ?_) <;> simp only [decide_eq_true_eq, decide_eq_false_iff_not, Decidable.not_not, Bool.and_eq_true, Bool.not_eq_true', Bool.not_eq_false'] at h)
        · have hil : i < l.length := by omega
          obtain ⟨x, hx⟩ : ∃ x, l[i]? = some x := ⟨_, List.getElem?_eq_getElem hil⟩
          have ix := hu4.index (ki := .i64) (n := i) (by omega) (by omega)
          have ld := fun o k => hu4.load (o := o) (k := k) (encs_get hx)
          simp only [Int.toNat_natCast, enc] at ix ld
          have w3 : IntKind.i64.wrap ((i : Int) + 1) = ((i + 1 : Nat) : Int) := by rw [wrap_i64] <;> omega
          by_cases c1 : x.st = 1
          · have hnew := fillT_new hval hs64 hx c1
            obtain ⟨p, hp1, hp2⟩ := find_first ok.pow ok.free k3 hnew
            have hX5 : (M4 ++ [Blk.cells true [[V.int .u8 1, V.int .u64 x.key, V.int .u64 x.val]]])[M2.length + 1]? = some (.cells true [[V.slice M2.length 0 s s true 3]]) := getElem?_grow hX4
            have hB5 : (M4 ++ [Blk.cells true [[V.int .u8 1, V.int .u64 x.key, V.int .u64 x.val]]])[M2.length]? = some (.cells true (encs (fillT l i))) := getElem?_grow hB4
            have hlay := refLay_spec (cap := s) (ex := true) x.key x.val hB5 ok.pow hp2
            rw [fl] at hlay
            have hla : (fillT l i).set ((G.hk (fillT l i) x.key + p) % s) ⟨1, x.key, x.val⟩ = fillT l (i + 1) := by
              rw [fillT_succ hx, if_pos c1]
              unfold layL
              rw [hp1, fl]
            rw [hla] at hlay
            simp (maxDischargeDepth := 30) only [h, f1, f2, f6, f12, f67, f68, f69, ix, ld, c1, load_at0 hX5, amL, args0, Nat.reduceEqDiff, reduceCtorEq, ↓reduceIte, Nat.reduceAdd, resultsA, results1, Int.reduceNeg, splice, Nat.reduceLeDiff, part, fillA, fillE, Nat.reduceLT]
            refine hlay.mono ?_
            rintro _ M6 ⟨rfl, hg6⟩
            have hbl5 := (List.getElem?_eq_some_iff.1 hB5).1
            have hX6 : M6[M2.length + 1]? = some (.cells true [[V.slice M2.length 0 s s true 3]]) := hg6.get (by rw [List.getElem?_set_ne (by omega)]; exact hX5)
            have hB6 : M6[M2.length]? = some (.cells true (encs (fillT l (i + 1)))) := hg6.get (List.getElem?_set_self hbl5)
            have hgM6 : Grow M2 M6 := (hg4.app.set (Nat.le_refl _) _).trans hg6
            have s1 := store_at0 (x := .agg [V.slice M2.length 0 s s true 3]) (j := 0) (n := 1) hX6 rfl (by simp) rfl
            have hXl := (List.getElem?_eq_some_iff.1 hX6).1
            simp only [cells_agg, splice, List.take_zero, List.nil_append, List.cons_append, List.length_cons, List.length_nil, Nat.zero_add, List.drop_succ_cons, List.drop_nil] at s1
            simp (maxDischargeDepth := 30) only [aft_mk, f1, f2, f6, f12, f67, f68, f69, s1, w3, amL, args0, Nat.reduceEqDiff, reduceCtorEq, ↓reduceIte, Nat.reduceAdd, resultsA, results1, Int.reduceNeg, splice, Nat.reduceLeDiff, part, fillA, fillE, Nat.reduceLT]
            refine ⟨_, ?_, i + 1, by omega, rfl, ?_, ?_, ?_, ?_, ?_, ?_, ?_, hgM6.set (by omega) _, ?_, List.getElem?_set_self hXl⟩
            · omega
            · simp (maxDischargeDepth := 30) only [f1, amL, args0, Nat.reduceEqDiff, reduceCtorEq, ↓reduceIte, Nat.reduceAdd, resultsA, results1, Int.reduceNeg, splice, Nat.reduceLeDiff, part, fillA, fillE, Nat.reduceLT]
            · simp (maxDischargeDepth := 30) only [f2, amL, args0, Nat.reduceEqDiff, reduceCtorEq, ↓reduceIte, Nat.reduceAdd, resultsA, results1, Int.reduceNeg, splice, Nat.reduceLeDiff, part, fillA, fillE, Nat.reduceLT]
            · simp (maxDischargeDepth := 30) only [f6, amL, args0, Nat.reduceEqDiff, reduceCtorEq, ↓reduceIte, Nat.reduceAdd, resultsA, results1, Int.reduceNeg, splice, Nat.reduceLeDiff, part, fillA, fillE, Nat.reduceLT]
            · simp (maxDischargeDepth := 30) only [f12, amL, args0, Nat.reduceEqDiff, reduceCtorEq, ↓reduceIte, Nat.reduceAdd, resultsA, results1, Int.reduceNeg, splice, Nat.reduceLeDiff, part, fillA, fillE, Nat.reduceLT]
            · simp (maxDischargeDepth := 30) only [f67, amL, args0, Nat.reduceEqDiff, reduceCtorEq, ↓reduceIte, Nat.reduceAdd, resultsA, results1, Int.reduceNeg, splice, Nat.reduceLeDiff, part, fillA, fillE, Nat.reduceLT]
            · simp (maxDischargeDepth := 30) only [f68, amL, args0, Nat.reduceEqDiff, reduceCtorEq, ↓reduceIte, Nat.reduceAdd, resultsA, results1, Int.reduceNeg, splice, Nat.reduceLeDiff, part, fillA, fillE, Nat.reduceLT]
            · simp (maxDischargeDepth := 30) only [amL, args0, Nat.reduceEqDiff, reduceCtorEq, ↓reduceIte, Nat.reduceAdd, resultsA, results1, Int.reduceNeg, splice, Nat.reduceLeDiff, part, fillA, fillE, Nat.reduceLT]
            · rw [List.getElem?_set_ne (by omega)]; exact hB6
          · simp (maxDischargeDepth := 30) only [h, f1, f2, f6, f12, f67, f68, f69, ix, ld, c1, w3, amL, args0, Nat.reduceEqDiff, reduceCtorEq, ↓reduceIte, Nat.reduceAdd, resultsA, results1, Int.reduceNeg, splice, Nat.reduceLeDiff, part, fillA, fillE, Nat.reduceLT]
            refine ⟨_, ?_, i + 1, by omega, rfl, ?_, ?_, ?_, ?_, ?_, ?_, ?_, hg4.app, ?_, getElem?_grow hX4⟩
            · omega
            · simp (maxDischargeDepth := 30) only [f1, amL, args0, Nat.reduceEqDiff, reduceCtorEq, ↓reduceIte, Nat.reduceAdd, resultsA, results1, Int.reduceNeg, splice, Nat.reduceLeDiff, part, fillA, fillE, Nat.reduceLT]
            · simp (maxDischargeDepth := 30) only [f2, amL, args0, Nat.reduceEqDiff, reduceCtorEq, ↓reduceIte, Nat.reduceAdd, resultsA, results1, Int.reduceNeg, splice, Nat.reduceLeDiff, part, fillA, fillE, Nat.reduceLT]
            · simp (maxDischargeDepth := 30) only [f6, amL, args0, Nat.reduceEqDiff, reduceCtorEq, ↓reduceIte, Nat.reduceAdd, resultsA, results1, Int.reduceNeg, splice, Nat.reduceLeDiff, part, fillA, fillE, Nat.reduceLT]
            · simp (maxDischargeDepth := 30) only [f12, amL, args0, Nat.reduceEqDiff, reduceCtorEq, ↓reduceIte, Nat.reduceAdd, resultsA, results1, Int.reduceNeg, splice, Nat.reduceLeDiff, part, fillA, fillE, Nat.reduceLT]
            · simp (maxDischargeDepth := 30) only [f67, amL, args0, Nat.reduceEqDiff, reduceCtorEq, ↓reduceIte, Nat.reduceAdd, resultsA, results1, Int.reduceNeg, splice, Nat.reduceLeDiff, part, fillA, fillE, Nat.reduceLT]
            · simp (maxDischargeDepth := 30) only [f68, amL, args0, Nat.reduceEqDiff, reduceCtorEq, ↓reduceIte, Nat.reduceAdd, resultsA, results1, Int.reduceNeg, splice, Nat.reduceLeDiff, part, fillA, fillE, Nat.reduceLT]
            · simp (maxDischargeDepth := 30) only [amL, args0, Nat.reduceEqDiff, reduceCtorEq, ↓reduceIte, Nat.reduceAdd, resultsA, results1, Int.reduceNeg, splice, Nat.reduceLeDiff, part, fillA, fillE, Nat.reduceLT]
            · rw [fillT_succ hx, if_neg c1]; exact getElem?_grow hB4
        · have : i = l.length := by omega
          subst this
          rw [fillT_all] at ok k3 fl hB4
          have hput : putL l key val = (layL (anewL l) key val, 0) := by simp [putL, hval, hk, hnd, hs64]
          obtain ⟨_, ahas⟩ := valid_anew hval hs64
          have hnew : (findL (anewL l) key).2 = false := by
            cases hf : (findL (anewL l) key).2 with
            | false => rfl
            | true =>
              obtain ⟨v, hv⟩ := ok.found_iff.1 hf
              exact absurd ((ahas _ _).1 hv) (hnf v)
          obtain ⟨p, hp1, hp2⟩ := find_first ok.pow ok.free k3 hnew
          have hlay := refLay_spec (cap := s) (ex := true) key val hB4 ok.pow hp2
          rw [fl] at hlay
          have hla : (anewL l).set ((G.hk (anewL l) key + p) % s) ⟨1, key, val⟩ = layL (anewL l) key val := by
            unfold layL
            rw [hp1, fl]
          rw [hla] at hlay
          simp (maxDischargeDepth := 30) only [h, f1, f2, f6, f12, f67, f68, f69, load_at0 hX4, amL, args0, Nat.reduceEqDiff, reduceCtorEq, ↓reduceIte, Nat.reduceAdd, resultsA, results1, Int.reduceNeg, splice, Nat.reduceLeDiff, part, fillA, fillE, Nat.reduceLT]
          refine hlay.mono ?_
          rintro _ M6 ⟨rfl, hg6⟩
          have hbl4 := (List.getElem?_eq_some_iff.1 hB4).1
          have hR6 : M6[R]? = some (.cells true [[.nils]]) := hg6.get (by rw [List.getElem?_set_ne (by omega)]; exact hg4.get hR2)
          have hB6 : M6[M2.length]? = some (.cells true (encs (layL (anewL l) key val))) := hg6.get (List.getElem?_set_self hbl4)
          have hgM6 : Grow M2 M6 := (hg4.set (Nat.le_refl _) _).trans hg6
          have s1 := store_at0 (x := .agg [V.slice M2.length 0 s s true 3]) (j := 0) (n := 1) hR6 rfl (by simp) rfl
          have hRl := (List.getElem?_eq_some_iff.1 hR6).1
          have l2 := fun k => load_set0 (M := M6) (b := R) (own := true) (el := [V.slice M2.length 0 s s true 3]) (k := k) (j := 0) hRl
          simp only [cells_agg, splice, List.take_zero, List.nil_append, List.cons_append, List.length_cons, List.length_nil, Nat.zero_add, List.drop_succ_cons, List.drop_nil] at s1
          simp (maxDischargeDepth := 30) only [aft_mk, f1, f2, f6, f12, f67, f68, f69, s1, l2, amL, args0, Nat.reduceEqDiff, reduceCtorEq, ↓reduceIte, Nat.reduceAdd, resultsA, results1, Int.reduceNeg, splice, Nat.reduceLeDiff, part, fillA, fillE, Nat.reduceLT]
          rw [hput]
          have e3 : (encs (layL (anewL l) key val)).length = s := by simp [layL_length, fl]
          have hsl6 := Sl.mk (cap := s) (ex := true) (z := 3) hB6
          rw [e3] at hsl6
          exact ⟨_, rfl, ((hg.trans hg12).trans hgM6).set hmR _, hsl6.set_other encs_z hR6 (by simp) rfl⟩
      · refine ⟨0, by omega, rfl, by simp (maxDischargeDepth := 30) only [f1, amL, args0, Nat.reduceEqDiff, reduceCtorEq, ↓reduceIte, Nat.reduceAdd, resultsA, results1, Int.reduceNeg, splice, Nat.reduceLeDiff, part, fillA, fillE, Nat.reduceLT], by simp (maxDischargeDepth := 30) only [f2, amL, args0, Nat.reduceEqDiff, reduceCtorEq, ↓reduceIte, Nat.reduceAdd, resultsA, results1, Int.reduceNeg, splice, Nat.reduceLeDiff, part, fillA, fillE, Nat.reduceLT], by simp (maxDischargeDepth := 30) only [f6, amL, args0, Nat.reduceEqDiff, reduceCtorEq, ↓reduceIte, Nat.reduceAdd, resultsA, results1, Int.reduceNeg, splice, Nat.reduceLeDiff, part, fillA, fillE, Nat.reduceLT], by simp (maxDischargeDepth := 30) only [hxl, amL, args0, Nat.reduceEqDiff, reduceCtorEq, ↓reduceIte, Nat.reduceAdd, resultsA, results1, Int.reduceNeg, splice, Nat.reduceLeDiff, part, fillA, fillE, Nat.reduceLT], by simp (maxDischargeDepth := 30) only [amL, args0, Nat.reduceEqDiff, reduceCtorEq, ↓reduceIte, Nat.reduceAdd, resultsA, results1, Int.reduceNeg, splice, Nat.reduceLeDiff, part, fillA, fillE, Nat.reduceLT], by simp (maxDischargeDepth := 30) only [amL, args0, Nat.reduceEqDiff, reduceCtorEq, ↓reduceIte, Nat.reduceAdd, resultsA, results1, Int.reduceNeg, splice, Nat.reduceLeDiff, part, fillA, fillE, Nat.reduceLT], by simp (maxDischargeDepth := 30) only [amL, args0, Nat.reduceEqDiff, reduceCtorEq, ↓reduceIte, Nat.reduceAdd, resultsA, results1, Int.reduceNeg, splice, Nat.reduceLeDiff, part, fillA, fillE, Nat.reduceLT]; rfl, hg3, hB3, hX3⟩
  · refine ⟨8, by omega, by omega, ?_, by simp (maxDischargeDepth := 30) only [f1, amL, args0, Nat.reduceEqDiff, reduceCtorEq, ↓reduceIte, Nat.reduceAdd, resultsA, results1, Int.reduceNeg, splice, Nat.reduceLeDiff, part, fillA, fillE, Nat.reduceLT], by simp (maxDischargeDepth := 30) only [f2, amL, args0, Nat.reduceEqDiff, reduceCtorEq, ↓reduceIte, Nat.reduceAdd, resultsA, results1, Int.reduceNeg, splice, Nat.reduceLeDiff, part, fillA, fillE, Nat.reduceLT], by simp (maxDischargeDepth := 30) only [f3, amL, args0, Nat.reduceEqDiff, reduceCtorEq, ↓reduceIte, Nat.reduceAdd, resultsA, results1, Int.reduceNeg, splice, Nat.reduceLeDiff, part, fillA, fillE, Nat.reduceLT], by simp (maxDischargeDepth := 30) only [f6, amL, args0, Nat.reduceEqDiff, reduceCtorEq, ↓reduceIte, Nat.reduceAdd, resultsA, results1, Int.reduceNeg, splice, Nat.reduceLeDiff, part, fillA, fillE, Nat.reduceLT], by simp (maxDischargeDepth := 30) only [amL, args0, Nat.reduceEqDiff, reduceCtorEq, ↓reduceIte, Nat.reduceAdd, resultsA, results1, Int.reduceNeg, splice, Nat.reduceLeDiff, part, fillA, fillE, Nat.reduceLT]; rfl, Grow.refl _⟩
    omega
end Go.AM.G

set_option maxRecDepth 100000
namespace Go.AM.G
open Go Go.AM
theorem refPut_spec {m : Mem} {v : V} {l : List Slot} (key val : Int) (hv : Sl m v 3 (encs l)) (hl : l.length < 5864062014806) (hst0 : ∀ s ∈ l, 0 ≤ s.st) : C S n_ref10_Put [.agg [v], .int .u64 key, .int .u64 val] m (fun r m' => ∃ v', r = .tup [.agg [v'], .int .i64 (putL l key val).2] ∧ Grow m m' ∧ Sl m' v' 3 (encs (putL l key val).1)) := by
  refine C_body rfl rfl rfl ?_
  unfold ref10_Put
  have hcell := hv.cell
  have hlen : (encs l).length = l.length := by simp
  simp (maxDischargeDepth := 30) only [hcell, amL, args0, Nat.reduceEqDiff, reduceCtorEq, ↓reduceIte, Nat.reduceAdd, resultsA, results1, Int.reduceNeg, splice, Nat.reduceLeDiff, part, fillA, fillE, Nat.reduceLT]
  refine (refCheck_spec hv.app.app (by omega)).mono ?_
  rintro _ M1 ⟨rfl, hg1⟩
  have hT1 : M1[m.length]? = some (.cells true [[v]]) := hg1.get (getElem?_grow (by simp))
  have hxl : (m ++ [Blk.cells true [[v]]]).length = m.length + 1 := by simp
  have hR1 : M1[m.length + 1]? = some (.cells true [[V.nils]]) := hg1.get (by rw [← hxl]; exact List.getElem?_concat_length)
  have hgm1 : Grow m M1 := (Grow.refl m).app.app.trans hg1
  by_cases hval : validB l = true
  · have h64 := valid_len hval
    have hk3 := K3_valid hval hst0
    have c00 : ¬ ¬ (0 : Int) = 0 := by omega
    simp (maxDischargeDepth := 30) only [aft_mk, hval, c00, load_at0 hT1, amL, args0, Nat.reduceEqDiff, reduceCtorEq, ↓reduceIte, Nat.reduceAdd, resultsA, results1, Int.reduceNeg, splice, Nat.reduceLeDiff, part, fillA, fillE, Nat.reduceLT]
    refine (Copy_spec (hv.grow hgm1) hl).mono ?_
    rintro _ M2 ⟨u, rfl, hg2, hu⟩
    have huc := hu.1.cell
    have hT2 := hg2.get hT1
    have hR2 := hg2.get hR1
    have hgm2 := hgm1.trans hg2
    have hT2l := (List.getElem?_eq_some_iff.1 hT2).1
    have hR2l := (List.getElem?_eq_some_iff.1 hR2).1
    have hM1l : m.length + 2 ≤ M1.length := by have := (List.getElem?_eq_some_iff.1 hR1).1; omega
    have s0 := store_at0 (x := .agg [u]) (j := 0) (n := 1) hT2 rfl (by simp) (by simp [cells_agg, huc])
    simp only [cells_agg, splice, List.take_zero, List.nil_append, List.cons_append, List.length_cons, List.length_nil, Nat.zero_add, List.drop_succ_cons, List.drop_nil] at s0
    simp (maxDischargeDepth := 30) only [aft_mk, huc, s0, hxl, amL, args0, Nat.reduceEqDiff, reduceCtorEq, ↓reduceIte, Nat.reduceAdd, resultsA, results1, Int.reduceNeg, splice, Nat.reduceLeDiff, part, fillA, fillE, Nat.reduceLT]
    have hu3 : Fresh M1.length (M2.set m.length (.cells true [[u]])) u 3 (encs l) := hu.to (fun b x hb hx => by rw [List.getElem?_set_ne (by omega)]; exact hx)
    have hT3 : (M2.set m.length (.cells true [[u]]))[m.length]? = some (.cells true [[u]]) := List.getElem?_set_self hT2l
    have hR3 : (M2.set m.length (.cells true [[u]]))[m.length + 1]? = some (.cells true [[V.nils]]) := by rw [List.getElem?_set_ne (by omega)]; exact hR2
    have hgm3 : Grow m (M2.set m.length (.cells true [[u]])) := hgm2.set (Nat.le_refl _) _
    generalize M2.set m.length (.cells true [[u]]) = M3 at hu3 hT3 hR3 hgm3
    have hR3l := (List.getElem?_eq_some_iff.1 hR3).1
    by_cases hk : key = 0
    · have hk' : (key = 0) = True := eq_true hk
      have hput : putL l key val = (l, 7) := by simp [putL, hval, hk]
      have s1 := store_at0 (x := .agg [u]) (j := 0) (n := 1) hR3 rfl (by simp) (by simp [cells_agg, huc])
      have l2 := fun k => load_set0 (M := M3) (b := m.length + 1) (own := true) (el := [u]) (k := k) (j := 0) hR3l
      simp only [cells_agg, splice, List.take_zero, List.nil_append, List.cons_append, List.length_cons, List.length_nil, Nat.zero_add, List.drop_succ_cons, List.drop_nil] at s1
      simp (maxDischargeDepth := 30) only [hk', load_at0 hT3, s1, l2, amL, args0, Nat.reduceEqDiff, reduceCtorEq, ↓reduceIte, Nat.reduceAdd, resultsA, results1, Int.reduceNeg, splice, Nat.reduceLeDiff, part, fillA, fillE, Nat.reduceLT]
      rw [hput]
      exact ⟨u, rfl, hgm3.set (by omega) _, hu3.1.set_other encs_z hR3 (by simp) rfl⟩
    simp (maxDischargeDepth := 30) only [hk, load_at0 hT3, amL, args0, Nat.reduceEqDiff, reduceCtorEq, ↓reduceIte, Nat.reduceAdd, resultsA, results1, Int.reduceNeg, splice, Nat.reduceLeDiff, part, fillA, fillE, Nat.reduceLT]
    refine (refFind_spec key hu3.1 (by omega)).mono ?_
    rintro _ M4 ⟨rfl, hg4⟩
    have hT4 := hg4.get hT3
    have hR4 := hg4.get hR3
    have hu4 := hu3.grow hg4
    have hgm4 := hgm3.trans hg4
    have hR4l := (List.getElem?_eq_some_iff.1 hR4).1
    rcases rf_valid (key := key) hval with ⟨hf, hrf⟩ | ⟨hf, hrf, hno⟩
    · have hn0 : ¬ l.length = 0 := by intro h; simp [findL, h] at hf
      obtain ⟨hok, _⟩ := (valid_iff.1 hval).resolve_left hn0
      obtain ⟨s, hs, hs1, hs2⟩ := hok.found hf
      have hi := (List.getElem?_eq_some_iff.1 hs).1
      have hput : putL l key val = (layL l key val, 0) := by simp [putL, hval, hk, needL, hf]
      rcases hu4.cases with ⟨_, h0⟩ | ⟨b, cap, ex, hb1, rfl, hb3⟩
      · rw [← hlen, h0] at hn0; exact absurd rfl hn0
      have hbl := (List.getElem?_eq_some_iff.1 hb3).1
      have ix := hu4.1.index (ki := .i64) (n := (findL l key).1) (by omega) (by omega)
      have st := store_own1 (n := 1) (len := (encs l).length) (cap := cap) (z := 3) (ex := ex) (j := 2) (x := .int .u64 val) hb3 (encs_get hs) (by simp [enc]) rfl rfl
      have e : (encs l).set (findL l key).1 (splice (enc s) 2 (V.int .u64 val).cells) = encs (layL l key val) := by
        have : splice (enc s) 2 (V.int .u64 val).cells = enc ⟨1, key, val⟩ := by simp [splice, enc, V.cells, hs1, hs2]
        rw [this]
        simp [layL, List.map_set]
      rw [e] at st
      simp only [Int.toNat_natCast] at ix
      have c1 : 0 ≤ ((findL l key).1 : Int) := by omega
      have hT5 : (M4.set b (.cells true (encs (layL l key val))))[m.length]? = some (.cells true [[V.slice b 0 (encs l).length cap ex 3]]) := by rw [List.getElem?_set_ne (by omega)]; exact hT4
      have hR5 : (M4.set b (.cells true (encs (layL l key val))))[m.length + 1]? = some (.cells true [[V.nils]]) := by rw [List.getElem?_set_ne (by omega)]; exact hR4
      have hR5l := (List.getElem?_eq_some_iff.1 hR5).1
      have hgm5 : Grow m (M4.set b (.cells true (encs (layL l key val)))) := hgm4.set (by omega) _
      have hsl5 : Sl (M4.set b (.cells true (encs (layL l key val)))) (.slice b 0 (encs l).length cap ex 3) 3 (encs (layL l key val)) := by
        have e3 : (encs l).length = (encs (layL l key val)).length := by simp [layL_length]
        rw [e3]
        exact Sl.mk (List.getElem?_set_self hbl)
      generalize M4.set b (.cells true (encs (layL l key val))) = M5 at st hT5 hR5 hR5l hgm5 hsl5
      have s1 := store_at0 (x := .agg [V.slice b 0 (encs l).length cap ex 3]) (j := 0) (n := 1) hR5 rfl (by simp) rfl
      have l2 := fun k => load_set0 (M := M5) (b := m.length + 1) (own := true) (el := [V.slice b 0 (encs l).length cap ex 3]) (k := k) (j := 0) hR5l
      simp only [cells_agg, splice, List.take_zero, List.nil_append, List.cons_append, List.length_cons, List.length_nil, Nat.zero_add, List.drop_succ_cons, List.drop_nil] at s1
      simp (maxDischargeDepth := 30) only [aft_mk, hrf, c1, load_at0 hT4, ix, st, load_at0 hT5, s1, l2, amL, args0, Nat.reduceEqDiff, reduceCtorEq, ↓reduceIte, Nat.reduceAdd, resultsA, results1, Int.reduceNeg, splice, Nat.reduceLeDiff, part, fillA, fillE, Nat.reduceLT]
      rw [hput]
      exact ⟨_, rfl, hgm5.set (by omega) _, hsl5.set_other encs_z hR5 (by simp) rfl⟩
    have c1 : ¬ (0 : Int) ≤ -1 := by omega
    simp (maxDischargeDepth := 30) only [aft_mk, hrf, c1, load_at0 hT4, hu4.1.len, hlen, amL, args0, Nat.reduceEqDiff, reduceCtorEq, ↓reduceIte, Nat.reduceAdd, resultsA, results1, Int.reduceNeg, splice, Nat.reduceLeDiff, part, fillA, fillE, Nat.reduceLT]
    by_cases hn0 : l.length = 0
    · have hn0' : ¬ (0 : Int) < (l.length : Int) := by omega
      simp (maxDischargeDepth := 30) only [hn0', amL, args0, Nat.reduceEqDiff, reduceCtorEq, ↓reduceIte, Nat.reduceAdd, resultsA, results1, Int.reduceNeg, splice, Nat.reduceLeDiff, part, fillA, fillE, Nat.reduceLT]
      exact refPut_tail (by simp (maxDischargeDepth := 30) only [amL, args0, Nat.reduceEqDiff, reduceCtorEq, ↓reduceIte, Nat.reduceAdd, resultsA, results1, Int.reduceNeg, splice, Nat.reduceLeDiff, part, fillA, fillE, Nat.reduceLT]) (by simp (maxDischargeDepth := 30) only [amL, args0, Nat.reduceEqDiff, reduceCtorEq, ↓reduceIte, Nat.reduceAdd, resultsA, results1, Int.reduceNeg, splice, Nat.reduceLeDiff, part, fillA, fillE, Nat.reduceLT]) (by simp (maxDischargeDepth := 30) only [amL, args0, Nat.reduceEqDiff, reduceCtorEq, ↓reduceIte, Nat.reduceAdd, resultsA, results1, Int.reduceNeg, splice, Nat.reduceLeDiff, part, fillA, fillE, Nat.reduceLT]) (by simp (maxDischargeDepth := 30) only [amL, args0, Nat.reduceEqDiff, reduceCtorEq, ↓reduceIte, Nat.reduceAdd, resultsA, results1, Int.reduceNeg, splice, Nat.reduceLeDiff, part, fillA, fillE, Nat.reduceLT]) hT4 hR4 hu4.1 hgm4 (Nat.le_refl _) (by omega) (by omega) hval hk (by simp [needL, hf, hn0]) hno
    have hn0' : (0 : Int) < (l.length : Int) := by omega
    obtain ⟨hok, h4⟩ := (valid_iff.1 hval).resolve_left hn0
    simp (maxDischargeDepth := 30) only [hn0', load_at0 hT4, amL, args0, Nat.reduceEqDiff, reduceCtorEq, ↓reduceIte, Nat.reduceAdd, resultsA, results1, Int.reduceNeg, splice, Nat.reduceLeDiff, part, fillA, fillE, Nat.reduceLT]
    refine (Copy_spec hu4.1 (by omega)).mono ?_
    rintro _ M5 ⟨u2, rfl, hg5, hu5⟩
    have hM4l := (List.getElem?_eq_some_iff.1 hT4).1
    rcases hu5.cases with ⟨_, h0⟩ | ⟨b, cap, ex, hb1, rfl, hb3⟩
    · rw [← hlen, h0] at hn0; exact absurd rfl hn0
    obtain ⟨p, hp1, hp2⟩ := find_first hok.pow hok.free hk3 hf
    have hlay := refLay_spec (cap := cap) (ex := ex) key val hb3 hok.pow hp2
    rw [← hp1] at hlay
    have hla : l.set (findL l key).1 ⟨1, key, val⟩ = layL l key val := rfl
    rw [hla, ← hlen] at hlay
    simp (maxDischargeDepth := 30) only [aft_mk, amL, args0, Nat.reduceEqDiff, reduceCtorEq, ↓reduceIte, Nat.reduceAdd, resultsA, results1, Int.reduceNeg, splice, Nat.reduceLeDiff, part, fillA, fillE, Nat.reduceLT]
    refine hlay.mono ?_
    rintro _ M6 ⟨rfl, hg6⟩
    have hbl := (List.getElem?_eq_some_iff.1 hb3).1
    have hT6 : M6[m.length]? = some (.cells true [[u]]) := hg6.get (by rw [List.getElem?_set_ne (by omega)]; exact hg5.get hT4)
    have hR6 : M6[m.length + 1]? = some (.cells true [[V.nils]]) := hg6.get (by rw [List.getElem?_set_ne (by omega)]; exact hg5.get hR4)
    have hb6 : M6[b]? = some (.cells true (encs (layL l key val))) := hg6.get (List.getElem?_set_self hbl)
    have hgm6 : Grow m M6 := ((hgm4.trans hg5).set (by omega) _).trans hg6
    have hsl6 : Sl M6 (.slice b 0 (encs l).length cap ex 3) 3 (encs (layL l key val)) := by
      have e3 : (encs l).length = (encs (layL l key val)).length := by simp [layL_length]
      rw [e3]
      exact Sl.mk hb6
    have hul6 : Sl M6 u 3 (encs l) := by
      have hg45 : Grow M4 M6 := ((hg5).set (by omega) _).trans hg6
      exact hu4.1.grow hg45
    have hxl7 : (layL l key val).length = l.length := layL_length
    simp (maxDischargeDepth := 30) only [aft_mk, amL, args0, Nat.reduceEqDiff, reduceCtorEq, ↓reduceIte, Nat.reduceAdd, resultsA, results1, Int.reduceNeg, splice, Nat.reduceLeDiff, part, fillA, fillE, Nat.reduceLT]
    have hX7 : (M6 ++ [Blk.cells true [[V.slice b 0 (encs l).length cap ex 3]]])[M6.length]? = some (.cells true [[V.slice b 0 (encs l).length cap ex 3]]) := by simp
    refine (refMany_spec 0 (hsl6.app) (by omega)).mono ?_
    rintro _ M8 ⟨rfl, hg8⟩
    have hX8 := hg8.get hX7
    have hT8 := hg8.get (getElem?_grow (g := [Blk.cells true [[V.slice b 0 (encs l).length cap ex 3]]]) hT6)
    have hR8 := hg8.get (getElem?_grow (g := [Blk.cells true [[V.slice b 0 (encs l).length cap ex 3]]]) hR6)
    have hgm8 : Grow m M8 := hgm6.app.trans hg8
    have hsl8 := hsl6.app.grow hg8
    have hul8 := hul6.app.grow hg8
    have hR8l := (List.getElem?_eq_some_iff.1 hR8).1
    have hcl := cnt_le 0 (layL l key val)
    have w1 : IntKind.i64.wrap (4 * (cnt 0 (layL l key val) : Int)) = 4 * (cnt 0 (layL l key val) : Int) := by rw [wrap_i64] <;> omega
    obtain ⟨hi, _⟩ := findL_spec (key := key) hok.pow
    obtain ⟨sx, hsx⟩ : ∃ s, l[(findL l key).1]? = some s := ⟨_, List.getElem?_eq_getElem hi⟩
    have hcs := cnt0_set (x := ⟨1, key, val⟩) hsx (show (1:Int) ≠ 0 by decide)
    rw [hla] at hcs
    have hneed : needL l key = decide (4 * cnt 0 (layL l key val) < l.length) := by
      simp only [needL, hf, hsx, Option.any_some, Bool.not_false, Bool.true_and, hn0, decide_false, Bool.false_or]
      by_cases h0 : sx.st = 0
      · rw [if_pos h0] at hcs
        simp only [h0, decide_true, Bool.true_and]
        congr 1
        simp only [eq_iff_iff]
        omega
      · rw [if_neg h0] at hcs
        have : ¬ 4 * cnt 0 (layL l key val) < l.length := by omega
        simp [h0, this]
    by_cases hge : (l.length : Int) ≤ 4 * (cnt 0 (layL l key val) : Int)
    · have hput : putL l key val = (layL l key val, 0) := by
        have : ¬ 4 * cnt 0 (layL l key val) < l.length := by omega
        simp [putL, hval, hk, hneed, this]
      have s1 := store_at0 (x := .agg [V.slice b 0 (encs l).length cap ex 3]) (j := 0) (n := 1) hR8 rfl (by simp) rfl
      have l2 := fun k => load_set0 (M := M8) (b := m.length + 1) (own := true) (el := [V.slice b 0 (encs l).length cap ex 3]) (k := k) (j := 0) hR8l
      simp only [cells_agg, splice, List.take_zero, List.nil_append, List.cons_append, List.length_cons, List.length_nil, Nat.zero_add, List.drop_succ_cons, List.drop_nil] at s1
      simp (maxDischargeDepth := 30) only [aft_mk, w1, hge, load_at0 hX8, s1, l2, amL, args0, Nat.reduceEqDiff, reduceCtorEq, ↓reduceIte, Nat.reduceAdd, resultsA, results1, Int.reduceNeg, splice, Nat.reduceLeDiff, part, fillA, fillE, Nat.reduceLT]
      rw [hput]
      exact ⟨_, rfl, hgm8.set (by omega) _, hsl8.set_other encs_z hR8 (by simp) rfl⟩
    · simp (maxDischargeDepth := 30) only [aft_mk, w1, hge, amL, args0, Nat.reduceEqDiff, reduceCtorEq, ↓reduceIte, Nat.reduceAdd, resultsA, results1, Int.reduceNeg, splice, Nat.reduceLeDiff, part, fillA, fillE, Nat.reduceLT]
      exact refPut_tail (by simp (maxDischargeDepth := 30) only [amL, args0, Nat.reduceEqDiff, reduceCtorEq, ↓reduceIte, Nat.reduceAdd, resultsA, results1, Int.reduceNeg, splice, Nat.reduceLeDiff, part, fillA, fillE, Nat.reduceLT]) (by simp (maxDischargeDepth := 30) only [amL, args0, Nat.reduceEqDiff, reduceCtorEq, ↓reduceIte, Nat.reduceAdd, resultsA, results1, Int.reduceNeg, splice, Nat.reduceLeDiff, part, fillA, fillE, Nat.reduceLT]) (by simp (maxDischargeDepth := 30) only [amL, args0, Nat.reduceEqDiff, reduceCtorEq, ↓reduceIte, Nat.reduceAdd, resultsA, results1, Int.reduceNeg, splice, Nat.reduceLeDiff, part, fillA, fillE, Nat.reduceLT]) (by simp (maxDischargeDepth := 30) only [amL, args0, Nat.reduceEqDiff, reduceCtorEq, ↓reduceIte, Nat.reduceAdd, resultsA, results1, Int.reduceNeg, splice, Nat.reduceLeDiff, part, fillA, fillE, Nat.reduceLT]) hT8 hR8 hul8 hgm8 (Nat.le_refl _) (by omega) (by omega) hval hk (by rw [hneed]; simp; omega) hno
  · have c : ¬ (2 : Int) = 0 := by omega
    have s1 := store_at0 (x := .agg [V.nils]) (j := 0) (n := 1) hR1 rfl (by simp) rfl
    have hR1l := (List.getElem?_eq_some_iff.1 hR1).1
    have l2 := fun k => load_set0 (M := M1) (b := m.length + 1) (own := true) (el := [V.nils]) (k := k) (j := 0) hR1l
    simp only [cells_agg, splice, List.take_zero, List.nil_append, List.cons_append, List.length_cons, List.length_nil, Nat.zero_add, List.drop_succ_cons, List.drop_nil] at s1
    simp (maxDischargeDepth := 30) only [aft_mk, hval, c, hxl, s1, l2, putL, amL, args0, Nat.reduceEqDiff, reduceCtorEq, ↓reduceIte, Nat.reduceAdd, resultsA, results1, Int.reduceNeg, splice, Nat.reduceLeDiff, part, fillA, fillE, Nat.reduceLT]
    exact ⟨_, rfl, hgm1.set (by omega) _, ⟨rfl, rfl⟩⟩
end Go.AM.G

set_option maxRecDepth 100000
namespace Go.AM.G
open Go Go.AM
theorem refGet_spec {m : Mem} {v : V} {l : List Slot} (key : Int) (hv : Sl m v 3 (encs l)) (hlt : l.length < 2 ^ 60) : C S n_ref10_Get [.agg [v], .int .u64 key] m (fun r m' => r = .tup [.int .u64 (getL l key).1, .int .i64 (getL l key).2] ∧ Grow m m') := by
  refine C_body rfl rfl rfl ?_
  unfold ref10_Get
  have hcell := hv.cell
  have hlen : (encs l).length = l.length := by simp
  simp (maxDischargeDepth := 30) only [hcell, amL, args0, Nat.reduceEqDiff, reduceCtorEq, ↓reduceIte, Nat.reduceAdd, resultsA, results1, Int.reduceNeg, splice, Nat.reduceLeDiff, part, fillA, fillE, Nat.reduceLT]
  refine (refCheck_spec hv.app hlt).mono ?_
  rintro _ M1 ⟨rfl, hg1⟩
  have hT1 : M1[m.length]? = some (.cells true [[v]]) := hg1.get (by simp)
  have hgm1 : Grow m M1 := (Grow.refl m).app.trans hg1
  by_cases hval : validB l = true
  · have c00 : ¬ ¬ (0 : Int) = 0 := by omega
    have h64 := valid_len hval
    by_cases hk : key = 0
    · have hk' : (key = 0) = True := eq_true hk
      have hg : getL l key = (0, 7) := by simp [getL, hval, hk]
      simp (maxDischargeDepth := 30) only [aft_mk, hval, c00, hk', hg, amL, args0, Nat.reduceEqDiff, reduceCtorEq, ↓reduceIte, Nat.reduceAdd, resultsA, results1, Int.reduceNeg, splice, Nat.reduceLeDiff, part, fillA, fillE, Nat.reduceLT]
      exact hgm1
    simp (maxDischargeDepth := 30) only [aft_mk, hval, c00, hk, load_at0 hT1, amL, args0, Nat.reduceEqDiff, reduceCtorEq, ↓reduceIte, Nat.reduceAdd, resultsA, results1, Int.reduceNeg, splice, Nat.reduceLeDiff, part, fillA, fillE, Nat.reduceLT]
    refine (refFind_spec key (hv.grow hgm1) (by omega)).mono ?_
    rintro _ M2 ⟨rfl, hg2⟩
    have hT2 := hg2.get hT1
    have hv2 := (hv.grow hgm1).grow hg2
    rcases rf_valid (key := key) hval with ⟨hf, hrf⟩ | ⟨hf, hrf, hno⟩
    · have hn0 : ¬ l.length = 0 := by intro h; simp [findL, h] at hf
      obtain ⟨hok, _⟩ := (valid_iff.1 hval).resolve_left hn0
      obtain ⟨s, hs, hs1, hs2⟩ := hok.found hf
      have hi := (List.getElem?_eq_some_iff.1 hs).1
      have ix := hv2.index (ki := .i64) (n := (findL l key).1) (by omega) (by omega)
      have ld := fun o k => hv2.load (o := o) (k := k) (encs_get hs)
      simp only [Int.toNat_natCast, enc] at ix ld
      have c1 : ¬ ((findL l key).1 : Int) < 0 := by omega
      have hg : getL l key = (s.val, 0) := by simp [getL, hval, hk, hf, hs]
      simp (maxDischargeDepth := 30) only [aft_mk, hrf, c1, load_at0 hT2, ix, ld, hg, amL, args0, Nat.reduceEqDiff, reduceCtorEq, ↓reduceIte, Nat.reduceAdd, resultsA, results1, Int.reduceNeg, splice, Nat.reduceLeDiff, part, fillA, fillE, Nat.reduceLT]
      exact hgm1.trans hg2
    · have c1 : (-1 : Int) < 0 := by omega
      have hg : getL l key = (0, 3) := by simp [getL, hval, hk, hf]
      simp (maxDischargeDepth := 30) only [aft_mk, hrf, c1, hg, amL, args0, Nat.reduceEqDiff, reduceCtorEq, ↓reduceIte, Nat.reduceAdd, resultsA, results1, Int.reduceNeg, splice, Nat.reduceLeDiff, part, fillA, fillE, Nat.reduceLT]
      exact hgm1.trans hg2
  · have c : ¬ (2 : Int) = 0 := by omega
    simp (maxDischargeDepth := 30) only [aft_mk, hval, c, getL, amL, args0, Nat.reduceEqDiff, reduceCtorEq, ↓reduceIte, Nat.reduceAdd, resultsA, results1, Int.reduceNeg, splice, Nat.reduceLeDiff, part, fillA, fillE, Nat.reduceLT]
    exact hgm1
theorem delStep_valid {t : List Slot × Nat} {k : Int} (h : validB t.1 = true) : validB (delStep t k).1 = true := by
  unfold delStep
  split
  · rename_i hf
    have hn0 : ¬ t.1.length = 0 := by intro h; simp [findL, h] at hf
    obtain ⟨hok, h4⟩ := (valid_iff.1 h).resolve_left hn0
    obtain ⟨a, b, _⟩ := hok.del hf
    exact valid_iff.2 (.inr ⟨a, by rw [b, List.length_set]; exact h4⟩)
  · exact h
theorem del_valid : ∀ (keys : List Int) {t : List Slot × Nat}, validB t.1 = true → validB (keys.foldl delStep t).1 = true
  | [], _, h => h
  | k :: keys, _, h => del_valid keys (delStep_valid (k := k) h)
theorem refDel_spec {m : Mem} {v w : V} {l : List Slot} {keys : List Int} (hv : Sl m v 3 (encs l)) (hw : Sl m w 1 (ints keys)) (hl : l.length < 5864062014806) (hkl : keys.length < 2 ^ 60) : C S n_ref10_Del [.agg [v], w] m (fun r m' => ∃ v', r = .tup [.agg [v'], .int .i64 (delL l keys).2.1, .int .i64 (delL l keys).2.2] ∧ Grow m m' ∧ Sl m' v' 3 (encs (delL l keys).1)) := by
  refine C_body rfl rfl rfl ?_
  unfold ref10_Del
  have hcell := hv.cell
  have hlen : (encs l).length = l.length := by simp
  have hlk : (ints keys).length = keys.length := by simp
  simp (maxDischargeDepth := 30) only [hcell, amL, args0, Nat.reduceEqDiff, reduceCtorEq, ↓reduceIte, Nat.reduceAdd, resultsA, results1, Int.reduceNeg, splice, Nat.reduceLeDiff, part, fillA, fillE, Nat.reduceLT]
  refine (refCheck_spec hv.app.app (by omega)).mono ?_
  rintro _ M1 ⟨rfl, hg1⟩
  have hT1 : M1[m.length]? = some (.cells true [[v]]) := hg1.get (getElem?_grow (by simp))
  have hxl : (m ++ [Blk.cells true [[v]]]).length = m.length + 1 := by simp
  have hR1 : M1[m.length + 1]? = some (.cells true [[V.nils]]) := hg1.get (by rw [← hxl]; exact List.getElem?_concat_length)
  have hgm1 : Grow m M1 := (Grow.refl m).app.app.trans hg1
  by_cases hval : validB l = true
  · have h64 := valid_len hval
    have hvc := valid_cases hval
    have c00 : ¬ ¬ (0 : Int) = 0 := by omega
    simp (maxDischargeDepth := 30) only [aft_mk, hval, c00, load_at0 hT1, amL, args0, Nat.reduceEqDiff, reduceCtorEq, ↓reduceIte, Nat.reduceAdd, resultsA, results1, Int.reduceNeg, splice, Nat.reduceLeDiff, part, fillA, fillE, Nat.reduceLT]
    refine (Copy_spec (hv.grow hgm1) hl).mono ?_
    rintro _ M2 ⟨u, rfl, hg2, hu⟩
    have huc := hu.1.cell
    have hT2 := hg2.get hT1
    have hR2 := hg2.get hR1
    have hgm2 := hgm1.trans hg2
    have hT2l := (List.getElem?_eq_some_iff.1 hT2).1
    have hM1l : m.length + 2 ≤ M1.length := by have := (List.getElem?_eq_some_iff.1 hR1).1; omega
    have s0 := store_at0 (x := .agg [u]) (j := 0) (n := 1) hT2 rfl (by simp) (by simp [cells_agg, huc])
    simp only [cells_agg, splice, List.take_zero, List.nil_append, List.cons_append, List.length_cons, List.length_nil, Nat.zero_add, List.drop_succ_cons, List.drop_nil] at s0
    simp (maxDischargeDepth := 30) only [aft_mk, huc, s0, hxl, hw.len, hlk, amL, args0, Nat.reduceEqDiff, reduceCtorEq, ↓reduceIte, Nat.reduceAdd, resultsA, results1, Int.reduceNeg, splice, Nat.reduceLeDiff, part, fillA, fillE, Nat.reduceLT]
    have hu3 : Fresh (m.length + 2) (M2.set m.length (.cells true [[u]])) u 3 (encs l) := (hu.to (fun b x hb hx => by rw [List.getElem?_set_ne (by omega)]; exact hx)).weaken hM1l
    have hT3 : (M2.set m.length (.cells true [[u]]))[m.length]? = some (.cells true [[u]]) := List.getElem?_set_self hT2l
    have hR3 : (M2.set m.length (.cells true [[u]]))[m.length + 1]? = some (.cells true [[V.nils]]) := by rw [List.getElem?_set_ne (by omega)]; exact hR2
    have hgm3 : Grow m (M2.set m.length (.cells true [[u]])) := hgm2.set (Nat.le_refl _) _
    generalize M2.set m.length (.cells true [[u]]) = M3 at hu3 hT3 hR3 hgm3
    let T := fun (i : Nat) => (keys.take i).foldl delStep (l, 0)
    have hpc : l.length = 0 ∨ Pow l.length := hvc.imp id And.left
    have hTs : ∀ i k, keys[i]? = some k → T (i + 1) = delStep (T i) k := by
      intro i k hk
      obtain ⟨a1, e1⟩ := List.getElem?_eq_some_iff.1 hk
      simp only [T]
      rw [List.take_succ_eq_append_getElem a1, e1, List.foldl_append]
      rfl
    have hTi : ∀ i, (T i).1.length = l.length ∧ (T i).2 ≤ i ∧ validB (T i).1 = true := by
      intro i
      obtain ⟨a, b, c⟩ := del_fold (keys := keys.take i) (t := (l, 0)) hpc
      refine ⟨a, ?_, del_valid _ hval⟩
      simp only [List.length_take] at c
      simp only [T]
      omega
    have hTl : T keys.length = keys.foldl delStep (l, 0) := by simp only [T, List.take_length]
    let J := fun (n : Nat) (fr : Frame) (M' : Mem) => ∃ i : Nat, i ≤ keys.length ∧ n = keys.length - i ∧ fr 2 = .ptr m.length 0 0 ∧ fr 4 = .ptr (m.length + 1) 0 0 ∧ fr 17 = w ∧ fr 18 = .int .i64 keys.length ∧ fr 19 = .int .i64 i ∧ fr 7 = .int .i64 (T i).2 ∧ Grow m M' ∧ M'[m.length]? = some (.cells true [[u]]) ∧ M'[m.length + 1]? = some (.cells true [[.nils]]) ∧ Fresh (m.length + 2) M' u 3 (encs (T i).1)
    refine W_loop J ?_ keys.length ?_
    · rintro n fr M4 ⟨i, hi, rfl, f2, f4, f17, f18, f19, f7, hg, hb1, hR1, hu1⟩
      unfold ref10_Del_l0
      simp (maxDischargeDepth := 30) only [f2, f4, f17, f18, f19, f7, amL, args0, Nat.reduceEqDiff, reduceCtorEq, ↓reduceIte, Nat.reduceAdd, resultsA, results1, Int.reduceNeg, splice, Nat.reduceLeDiff, part, fillA, fillE, Nat.reduceLT]
      first | (refine O_split (by simp only [put_apply, Nat.reduceEqDiff, ↓reduceIte, reduceCtorEq]; rfl) (fun h => ?_) (fun h => ?_) <;> simp only [decide_eq_true_eq, decide_eq_false_iff_not, Decidable.not_not, Bool.and_eq_true, Bool.not_eq_true', Bool.not_eq_false'] at h) | (refine W_split (by simp only [get_t, put_apply, Nat.reduceEqDiff, ↓reduceIte, reduceCtorEq]; rfl) (fun h => ?_) (fun h => ?_) <;> simp only [decide_eq_true_eq, decide_eq_false_iff_not, Decidable.not_not, Bool.and_eq_true, Bool.not_eq_true', Bool.not_eq_false'] at h)
      · have hil : i < keys.length := by omega
        obtain ⟨k, hk⟩ : ∃ k, keys[i]? = some k := ⟨_, List.getElem?_eq_getElem hil⟩
        have hwl := hw.grow hg
        have ix := hwl.index (ki := .i64) (n := i) (by omega) (by omega)
        have ld := fun o j => hwl.load (o := o) (k := j) (i := i) (el := [.int .u64 k]) (by simp [hk])
        simp only [Int.toNat_natCast] at ix ld
        have w1 : IntKind.i64.wrap ((i : Int) + 1) = ((i + 1 : Nat) : Int) := by rw [wrap_i64] <;> omega
        obtain ⟨t1, t3, tv⟩ := hTi i
        have w2 : IntKind.i64.wrap (((T i).2 : Int) + 1) = (((T i).2 + 1 : Nat) : Int) := by rw [wrap_i64] <;> omega
        simp (maxDischargeDepth := 30) only [h, f2, f4, f17, f18, f19, f7, ix, ld, load_at0 hb1, amL, args0, Nat.reduceEqDiff, reduceCtorEq, ↓reduceIte, Nat.reduceAdd, resultsA, results1, Int.reduceNeg, splice, Nat.reduceLeDiff, part, fillA, fillE, Nat.reduceLT]
        refine (refFind_spec k hu1.1 (by omega)).mono ?_
        rintro _ M5 ⟨rfl, hg5⟩
        have hb5 := hg5.get hb1
        have hR5 := hg5.get hR1
        have hu5 := hu1.grow hg5
        have hgm5 := hg.trans hg5
        rcases rf_valid (key := k) tv with ⟨hf, hrf⟩ | ⟨hf, hrf, _⟩
        · have hTn : T (i + 1) = ((T i).1.set (findL (T i).1 k).1 ⟨2, 0, 0⟩, (T i).2 + 1) := by rw [hTs i k hk, delStep, if_pos hf]
          have hn0 : (T i).1.length ≠ 0 := by intro h0; simp [findL, h0] at hf
          obtain ⟨hpow, _⟩ := (valid_cases tv).resolve_left hn0
          obtain ⟨hfi, hfs⟩ := findL_spec (key := k) hpow
          obtain ⟨s, hs, hs1, _⟩ := hfs hf
          have ht3 : (encs (T i).1).length = (T i).1.length := by simp
          rcases hu5.cases with ⟨_, h0⟩ | ⟨b, cap, ex, hbR, rfl, hb3⟩
          · rw [← ht3, h0] at hn0; exact absurd rfl hn0
          have ix2 := hu5.1.index (ki := .i64) (n := (findL (T i).1 k).1) (by omega) (by omega)
          have st := store_own (n := 3) (len := (encs (T i).1).length) (cap := cap) (z := 3) (ex := ex) (x := .agg [.int .u8 2, .int .u64 0, .int .u64 0]) hb3 (encs_get hs) rfl rfl rfl
          have e : (encs (T i).1).set (findL (T i).1 k).1 [.int .u8 2, .int .u64 0, .int .u64 0] = encs (T (i + 1)).1 := by rw [hTn]; simp [List.map_set, enc]
          simp only [Int.toNat_natCast, cells_agg, e] at ix2 st
          have hbl := (List.getElem?_eq_some_iff.1 hb3).1
          have c1 : 0 ≤ ((findL (T i).1 k).1 : Int) := by omega
          simp (maxDischargeDepth := 30) only [aft_mk, hrf, c1, f2, f4, f17, f18, f19, f7, load_at0 hb5, ix2, st, w1, w2, amL, args0, Nat.reduceEqDiff, reduceCtorEq, ↓reduceIte, Nat.reduceAdd, resultsA, results1, Int.reduceNeg, splice, Nat.reduceLeDiff, part, fillA, fillE, Nat.reduceLT]
          refine ⟨_, ?_, i + 1, by omega, rfl, ?_, ?_, ?_, ?_, ?_, ?_, hgm5.set (by omega) _, ?_, ?_, ?_⟩
          · omega
          · simp (maxDischargeDepth := 30) only [f2, amL, args0, Nat.reduceEqDiff, reduceCtorEq, ↓reduceIte, Nat.reduceAdd, resultsA, results1, Int.reduceNeg, splice, Nat.reduceLeDiff, part, fillA, fillE, Nat.reduceLT]
          · simp (maxDischargeDepth := 30) only [f4, amL, args0, Nat.reduceEqDiff, reduceCtorEq, ↓reduceIte, Nat.reduceAdd, resultsA, results1, Int.reduceNeg, splice, Nat.reduceLeDiff, part, fillA, fillE, Nat.reduceLT]
          · simp (maxDischargeDepth := 30) only [f17, amL, args0, Nat.reduceEqDiff, reduceCtorEq, ↓reduceIte, Nat.reduceAdd, resultsA, results1, Int.reduceNeg, splice, Nat.reduceLeDiff, part, fillA, fillE, Nat.reduceLT]
          · simp (maxDischargeDepth := 30) only [f18, amL, args0, Nat.reduceEqDiff, reduceCtorEq, ↓reduceIte, Nat.reduceAdd, resultsA, results1, Int.reduceNeg, splice, Nat.reduceLeDiff, part, fillA, fillE, Nat.reduceLT]
          · simp (maxDischargeDepth := 30) only [amL, args0, Nat.reduceEqDiff, reduceCtorEq, ↓reduceIte, Nat.reduceAdd, resultsA, results1, Int.reduceNeg, splice, Nat.reduceLeDiff, part, fillA, fillE, Nat.reduceLT]
          · simp (maxDischargeDepth := 30) only [amL, args0, Nat.reduceEqDiff, reduceCtorEq, ↓reduceIte, Nat.reduceAdd, resultsA, results1, Int.reduceNeg, splice, Nat.reduceLeDiff, part, fillA, fillE, Nat.reduceLT]; rw [hTn]
          · rw [List.getElem?_set_ne (by omega)]; exact hb5
          · rw [List.getElem?_set_ne (by omega)]; exact hR5
          · refine Fresh.mk (.inr ⟨b, cap, ex, hbR, ?_, List.getElem?_set_self hbl⟩)
            rw [hTn]; simp
        · have hTn : T (i + 1) = T i := by rw [hTs i k hk, delStep, if_neg (by rw [hf]; decide)]
          have c1 : ¬ (0 : Int) ≤ -1 := by omega
          simp (maxDischargeDepth := 30) only [aft_mk, hrf, c1, f2, f4, f17, f18, f19, f7, w1, w2, amL, args0, Nat.reduceEqDiff, reduceCtorEq, ↓reduceIte, Nat.reduceAdd, resultsA, results1, Int.reduceNeg, splice, Nat.reduceLeDiff, part, fillA, fillE, Nat.reduceLT]
          refine ⟨_, ?_, i + 1, by omega, rfl, ?_, ?_, ?_, ?_, ?_, ?_, hgm5, hb5, hR5, ?_⟩
          · omega
          · simp (maxDischargeDepth := 30) only [f2, amL, args0, Nat.reduceEqDiff, reduceCtorEq, ↓reduceIte, Nat.reduceAdd, resultsA, results1, Int.reduceNeg, splice, Nat.reduceLeDiff, part, fillA, fillE, Nat.reduceLT]
          · simp (maxDischargeDepth := 30) only [f4, amL, args0, Nat.reduceEqDiff, reduceCtorEq, ↓reduceIte, Nat.reduceAdd, resultsA, results1, Int.reduceNeg, splice, Nat.reduceLeDiff, part, fillA, fillE, Nat.reduceLT]
          · simp (maxDischargeDepth := 30) only [f17, amL, args0, Nat.reduceEqDiff, reduceCtorEq, ↓reduceIte, Nat.reduceAdd, resultsA, results1, Int.reduceNeg, splice, Nat.reduceLeDiff, part, fillA, fillE, Nat.reduceLT]
          · simp (maxDischargeDepth := 30) only [f18, amL, args0, Nat.reduceEqDiff, reduceCtorEq, ↓reduceIte, Nat.reduceAdd, resultsA, results1, Int.reduceNeg, splice, Nat.reduceLeDiff, part, fillA, fillE, Nat.reduceLT]
          · simp (maxDischargeDepth := 30) only [amL, args0, Nat.reduceEqDiff, reduceCtorEq, ↓reduceIte, Nat.reduceAdd, resultsA, results1, Int.reduceNeg, splice, Nat.reduceLeDiff, part, fillA, fillE, Nat.reduceLT]
          · simp (maxDischargeDepth := 30) only [f7, amL, args0, Nat.reduceEqDiff, reduceCtorEq, ↓reduceIte, Nat.reduceAdd, resultsA, results1, Int.reduceNeg, splice, Nat.reduceLeDiff, part, fillA, fillE, Nat.reduceLT]; rw [hTn]
          · rw [hTn]; exact hu5
      · have : i = keys.length := by omega
        subst this
        have s1 := store_at0 (x := .agg [u]) (j := 0) (n := 1) hR1 rfl (by simp) (by simp [cells_agg, huc])
        have hRl1 := (List.getElem?_eq_some_iff.1 hR1).1
        have l2 := fun k => load_set0 (M := M4) (b := m.length + 1) (own := true) (el := [u]) (k := k) (j := 0) hRl1
        simp only [cells_agg, splice, List.take_zero, List.nil_append, List.cons_append, List.length_cons, List.length_nil, Nat.zero_add, List.drop_succ_cons, List.drop_nil] at s1
        simp (maxDischargeDepth := 30) only [h, f2, f4, f17, f18, f19, f7, load_at0 hb1, s1, l2, amL, args0, Nat.reduceEqDiff, reduceCtorEq, ↓reduceIte, Nat.reduceAdd, resultsA, results1, Int.reduceNeg, splice, Nat.reduceLeDiff, part, fillA, fillE, Nat.reduceLT]
        have e1 : (delL l keys).1 = (T keys.length).1 := by simp [delL, hval, hTl]
        have e2 : (delL l keys).2.1 = (T keys.length).2 := by simp [delL, hval, hTl]
        have e3 : (delL l keys).2.2 = 0 := by simp [delL, hval]
        rw [e1, e2, e3]
        exact ⟨u, rfl, hg.set (by omega) _, hu1.1.set_other encs_z hR1 (by simp) rfl⟩
    · refine ⟨0, by omega, rfl, by simp (maxDischargeDepth := 30) only [amL, args0, Nat.reduceEqDiff, reduceCtorEq, ↓reduceIte, Nat.reduceAdd, resultsA, results1, Int.reduceNeg, splice, Nat.reduceLeDiff, part, fillA, fillE, Nat.reduceLT], by simp (maxDischargeDepth := 30) only [amL, args0, Nat.reduceEqDiff, reduceCtorEq, ↓reduceIte, Nat.reduceAdd, resultsA, results1, Int.reduceNeg, splice, Nat.reduceLeDiff, part, fillA, fillE, Nat.reduceLT], by simp (maxDischargeDepth := 30) only [amL, args0, Nat.reduceEqDiff, reduceCtorEq, ↓reduceIte, Nat.reduceAdd, resultsA, results1, Int.reduceNeg, splice, Nat.reduceLeDiff, part, fillA, fillE, Nat.reduceLT], by simp (maxDischargeDepth := 30) only [amL, args0, Nat.reduceEqDiff, reduceCtorEq, ↓reduceIte, Nat.reduceAdd, resultsA, results1, Int.reduceNeg, splice, Nat.reduceLeDiff, part, fillA, fillE, Nat.reduceLT], by simp (maxDischargeDepth := 30) only [amL, args0, Nat.reduceEqDiff, reduceCtorEq, ↓reduceIte, Nat.reduceAdd, resultsA, results1, Int.reduceNeg, splice, Nat.reduceLeDiff, part, fillA, fillE, Nat.reduceLT]; rfl, by simp (maxDischargeDepth := 30) only [amL, args0, Nat.reduceEqDiff, reduceCtorEq, ↓reduceIte, Nat.reduceAdd, resultsA, results1, Int.reduceNeg, splice, Nat.reduceLeDiff, part, fillA, fillE, Nat.reduceLT]; rfl, hgm3, hT3, hR3, hu3⟩
  · have c : ¬ (2 : Int) = 0 := by omega
    have s1 := store_at0 (x := .agg [V.nils]) (j := 0) (n := 1) hR1 rfl (by simp) rfl
    have hR1l := (List.getElem?_eq_some_iff.1 hR1).1
    have l2 := fun k => load_set0 (M := M1) (b := m.length + 1) (own := true) (el := [V.nils]) (k := k) (j := 0) hR1l
    simp only [cells_agg, splice, List.take_zero, List.nil_append, List.cons_append, List.length_cons, List.length_nil, Nat.zero_add, List.drop_succ_cons, List.drop_nil] at s1
    simp (maxDischargeDepth := 30) only [aft_mk, hval, c, hxl, s1, l2, delL, amL, args0, Nat.reduceEqDiff, reduceCtorEq, ↓reduceIte, Nat.reduceAdd, resultsA, results1, Int.reduceNeg, splice, Nat.reduceLeDiff, part, fillA, fillE, Nat.reduceLT]
    exact ⟨_, rfl, hgm1.set (by omega) _, ⟨rfl, rfl⟩⟩
/-- EphemPuts on the abstract machine. -/
theorem puts_spec {m : Mem} {v w : V} {l : List Slot} {keys : List Int} (key val : Int) (hv : Sl m v 3 (encs l)) (hst0 : ∀ s ∈ l, 0 ≤ s.st) (hw : Sl m w 1 (ints keys)) (hl : l.length < 5864062014806) (hkl : keys.length < 2 ^ 60) : C S n_law10_EphemPuts [.agg [v], .int .u64 key, .int .u64 val, w] m (fun r m' => r = .bool true ∧ Grow m m') := by
  refine C_body rfl rfl rfl ?_
  unfold law10_EphemPuts
  have hcell := hv.cell
  simp (maxDischargeDepth := 30) only [hcell, amL, args0, Nat.reduceEqDiff, reduceCtorEq, ↓reduceIte, Nat.reduceAdd, resultsA, results1, Int.reduceNeg, splice, Nat.reduceLeDiff, part, fillA, fillE, Nat.reduceLT]
  refine (Copy_spec hv.app hl).mono ?_
  rintro _ M1 ⟨g, rfl, hg1, hgf⟩
  have hgc := hgf.1.cell
  have hT1 : M1[m.length]? = some (.cells true [[v]]) := hg1.get (by simp)
  have hgm1 : Grow m M1 := (Grow.refl m).app.trans hg1
  have hgs := hgf.1
  clear hgf
  simp (maxDischargeDepth := 30) only [aft_mk, hgc, amL, args0, Nat.reduceEqDiff, reduceCtorEq, ↓reduceIte, Nat.reduceAdd, resultsA, results1, Int.reduceNeg, splice, Nat.reduceLeDiff, part, fillA, fillE, Nat.reduceLT]
  have h9 : ∀ k M, Grow (M1 ++ [Blk.cells true [[g]]]) M → loadV M k (.ptr M1.length 0 0) = part [g] 0 k := fun k M hM => load_at0 (own := true) (hM.get (by simp))
  have h4 : ∀ k M, Grow (M1 ++ [Blk.cells true [[g]]]) M → loadV M k (.ptr m.length 0 0) = part [v] 0 k := fun k M hM => load_at0 (hM.get (getElem?_grow hT1))
  have hgg : ∀ M, Grow (M1 ++ [Blk.cells true [[g]]]) M → Sl M g 3 (encs l) ∧ Sl M v 3 (encs l) ∧ Sl M w 1 (ints keys) ∧ Grow m M := fun M hM => ⟨(hgs.app).grow hM, ((hv.grow hgm1).app).grow hM, ((hw.grow hgm1).app).grow hM, hgm1.app.trans hM⟩
  have hp1 : (putL l key val).1.length < 5864062014806 := by
    by_cases hval : validB l = true
    · have := valid_len hval
      have := putL_len (l := l) (key := key) (val := val)
      omega
    · simp [putL, hval]
  have hd1 : (delL l keys).1.length < 5864062014806 := Nat.lt_of_le_of_lt delL_len hl
  generalize M1 ++ [Blk.cells true [[g]]] = M2 at h9 h4 hgg
  obtain ⟨a1, a2, a3, a4⟩ := hgg M2 (Grow.refl _)
  refine (Put_spec key val a1 hl).mono ?_
  rintro _ M3 ⟨ua, rfl, hg3, hua⟩
  have huac := hua.1.cell
  obtain ⟨b1, b2, b3, b4⟩ := hgg _ (hg3.app (g := [Blk.cells true [[ua]]]))
  have hua1 := hua.1.app (g := [Blk.cells true [[ua]]])
  have hX1 : (M3 ++ [Blk.cells true [[ua]]])[M3.length]? = some (.cells true [[ua]]) := by simp
  have hG1 := hg3.app (g := [Blk.cells true [[ua]]])
  clear hua
  simp (maxDischargeDepth := 30) only [aft_mk, huac, h4 _ _ hG1, amL, args0, Nat.reduceEqDiff, reduceCtorEq, ↓reduceIte, Nat.reduceAdd, resultsA, results1, Int.reduceNeg, splice, Nat.reduceLeDiff, part, fillA, fillE, Nat.reduceLT]
  generalize hM4 : M3 ++ [Blk.cells true [[ua]]] = M4 at b1 b2 b3 b4 hua1 hX1 hG1
  refine (refPut_spec key val b2 hl hst0).mono ?_
  rintro _ M5 ⟨ub, rfl, hg5, hub⟩
  have hubc := hub.cell
  have hG2 := (hG1.trans hg5).app (g := [Blk.cells true [[ub]]])
  obtain ⟨d1, d2, d3, d4⟩ := hgg _ hG2
  have hX2 : (M5 ++ [Blk.cells true [[ub]]])[M3.length]? = some (.cells true [[ua]]) := getElem?_grow (hg5.get hX1)
  have hY2 : (M5 ++ [Blk.cells true [[ub]]])[M5.length]? = some (.cells true [[ub]]) := by simp
  have hua2 := (hua1.grow hg5).app (g := [Blk.cells true [[ub]]])
  have hub2 := hub.app (g := [Blk.cells true [[ub]]])
  simp (maxDischargeDepth := 30) only [aft_mk, hubc, h9 _ _ hG2, amL, args0, Nat.reduceEqDiff, reduceCtorEq, ↓reduceIte, Nat.reduceAdd, resultsA, results1, Int.reduceNeg, splice, Nat.reduceLeDiff, part, fillA, fillE, Nat.reduceLT]
  generalize hM6 : M5 ++ [Blk.cells true [[ub]]] = M6 at d1 d2 d3 d4 hX2 hY2 hua2 hub2 hG2
  refine (Del_spec d1 d3 hl hkl).mono ?_
  rintro _ M7 ⟨uc, rfl, hg7, huc⟩
  have hucc := huc.1.cell
  have hG3 := (hG2.trans hg7).app (g := [Blk.cells true [[uc]]])
  obtain ⟨e1, e2, e3, e4⟩ := hgg _ hG3
  have hX3 : (M7 ++ [Blk.cells true [[uc]]])[M3.length]? = some (.cells true [[ua]]) := getElem?_grow (hg7.get hX2)
  have hY3 : (M7 ++ [Blk.cells true [[uc]]])[M5.length]? = some (.cells true [[ub]]) := getElem?_grow (hg7.get hY2)
  have hZ3 : (M7 ++ [Blk.cells true [[uc]]])[M7.length]? = some (.cells true [[uc]]) := by simp
  have hua3 := (hua2.grow hg7).app (g := [Blk.cells true [[uc]]])
  have hub3 := (hub2.grow hg7).app (g := [Blk.cells true [[uc]]])
  have huc3 := huc.1.app (g := [Blk.cells true [[uc]]])
  simp (maxDischargeDepth := 30) only [aft_mk, hucc, h4 _ _ hG3, amL, args0, Nat.reduceEqDiff, reduceCtorEq, ↓reduceIte, Nat.reduceAdd, resultsA, results1, Int.reduceNeg, splice, Nat.reduceLeDiff, part, fillA, fillE, Nat.reduceLT]
  generalize hM8 : M7 ++ [Blk.cells true [[uc]]] = M8 at e1 e2 e3 e4 hX3 hY3 hZ3 hua3 hub3 huc3 hG3
  refine (refDel_spec e2 e3 hl hkl).mono ?_
  rintro _ M9 ⟨ud, rfl, hg9, hud⟩
  have hudc := hud.cell
  have hG4 := (hG3.trans hg9).app (g := [Blk.cells true [[ud]]])
  obtain ⟨k1, k2, k3, k4⟩ := hgg _ hG4
  have hX4 : (M9 ++ [Blk.cells true [[ud]]])[M3.length]? = some (.cells true [[ua]]) := getElem?_grow (hg9.get hX3)
  have hY4 : (M9 ++ [Blk.cells true [[ud]]])[M5.length]? = some (.cells true [[ub]]) := getElem?_grow (hg9.get hY3)
  have hZ4 : (M9 ++ [Blk.cells true [[ud]]])[M7.length]? = some (.cells true [[uc]]) := getElem?_grow (hg9.get hZ3)
  have hW4 : (M9 ++ [Blk.cells true [[ud]]])[M9.length]? = some (.cells true [[ud]]) := by simp
  have hua4 := (hua3.grow hg9).app (g := [Blk.cells true [[ud]]])
  have hub4 := (hub3.grow hg9).app (g := [Blk.cells true [[ud]]])
  have huc4 := (huc3.grow hg9).app (g := [Blk.cells true [[ud]]])
  have hud4 := hud.app (g := [Blk.cells true [[ud]]])
  simp (maxDischargeDepth := 30) only [aft_mk, hudc, amL, args0, Nat.reduceEqDiff, reduceCtorEq, ↓reduceIte, Nat.reduceAdd, resultsA, results1, Int.reduceNeg, splice, Nat.reduceLeDiff, part, fillA, fillE, Nat.reduceLT]
  generalize hM10 : M9 ++ [Blk.cells true [[ud]]] = M10 at k1 k2 k3 k4 hX4 hY4 hZ4 hW4 hua4 hub4 huc4 hud4 hG4
  refine lives_spec.mono ?_
  rintro _ _ ⟨rfl, rfl⟩
  simp (maxDischargeDepth := 30) only [aft_mk, load_at0 hX4, load_at0 hY4, amL, args0, Nat.reduceEqDiff, reduceCtorEq, ↓reduceIte, Nat.reduceAdd, resultsA, results1, Int.reduceNeg, splice, Nat.reduceLeDiff, part, fillA, fillE, Nat.reduceLT]
  refine (Same_spec hua4 hub4 hp1).mono ?_
  rintro _ M11 ⟨rfl, hg11⟩
  simp (maxDischargeDepth := 30) only [aft_mk, load_at0 (hg11.get hZ4), load_at0 (hg11.get hW4), amL, args0, Nat.reduceEqDiff, reduceCtorEq, ↓reduceIte, Nat.reduceAdd, resultsA, results1, Int.reduceNeg, splice, Nat.reduceLeDiff, part, fillA, fillE, Nat.reduceLT]
  refine (Same_spec (huc4.grow hg11) (hud4.grow hg11) hd1).mono ?_
  rintro _ M12 ⟨rfl, hg12⟩
  have hG5 := hG4.trans (hg11.trans hg12)
  obtain ⟨q1, q2, q3, q4⟩ := hgg _ hG5
  simp (maxDischargeDepth := 30) only [aft_mk, h9 _ _ hG5, h4 _ _ hG5, amL, args0, Nat.reduceEqDiff, reduceCtorEq, ↓reduceIte, Nat.reduceAdd, resultsA, results1, Int.reduceNeg, splice, Nat.reduceLeDiff, part, fillA, fillE, Nat.reduceLT]
  refine (Same_spec q1 q2 hl).mono ?_
  rintro _ M13 ⟨rfl, hg13⟩
  simp (maxDischargeDepth := 30) only [aft_mk, amL, args0, Nat.reduceEqDiff, reduceCtorEq, ↓reduceIte, Nat.reduceAdd, resultsA, results1, Int.reduceNeg, splice, Nat.reduceLeDiff, part, fillA, fillE, Nat.reduceLT]
  exact q4.trans hg13
end Go.AM.G
