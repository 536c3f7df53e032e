/- Part of the proof: contracts of functions of the given program on an abstract machine. -/
import Derived.Test.YtdfbfcohindpnaaEphemK
import Derived.Sort.AssemblyPlain
set_option linter.unusedVariables false
set_option linter.unusedSimpArgs false
set_option maxRecDepth 100000
namespace Go.AM.G
open Go Go.AM
def capOk : V → Bool
  | .slice _ _ len cap _ _ => decide (len ≤ cap)
  | _ => true
theorem append_cap {m m' : Mem} {zero : List V} {bytes b z : Nat} {v u : V} (h : appendV m zero bytes (.slice b 0 0 0 true z) v = some (u, m')) : capOk u = true := by
  unfold appendV at h
  split at h
  · cases h
  split at h
  · cases h
  dsimp only at h
  split at h
  · cases h
  split at h
  · cases h; rfl
  rename_i hne
  split at h
  · split at h
    · split at h
      · rename_i ys _ _ hle
        exfalso
        simp only [List.isEmpty_iff] at hne
        exact hne (List.length_eq_zero_iff.1 (by omega))
      · split at h
        · simp only [if_true, Option.some.injEq, Prod.mk.injEq] at h
          rw [← h.1]
          simp [capOk]
        · cases h
    · cases h
  · cases h
theorem Clone_spec' {m : Mem} {v : V} {l : List Slot} (hv : Sl m v 3 (encs l)) (hl : l.length < 5864062014806) : C S n_slices_Clone_EphSlot [v] m (fun r m' => Grow m m' ∧ Fresh m.length m' r 3 (encs l) ∧ capOk r = true) := by
  refine C_body rfl rfl rfl ?_
  unfold slices_Clone_EphSlot
  have hlen : (encs l).length = l.length := by simp
  rcases hv.cases with ⟨rfl, he⟩ | ⟨b, i, len, cap, ex, rfl⟩
  · simp (maxDischargeDepth := 30) only [amL, args0, Nat.reduceEqDiff, reduceCtorEq, ↓reduceIte, Nat.reduceAdd, resultsA, results1, Int.reduceNeg, splice, Nat.reduceLeDiff, part, fillA, fillE, Nat.reduceLT]
    exact ⟨Grow.refl _, Fresh.mk (.inl ⟨rfl, he⟩), rfl⟩
  · simp (maxDischargeDepth := 30) only [amL, args0, Nat.reduceEqDiff, reduceCtorEq, ↓reduceIte, Nat.reduceAdd, resultsA, results1, Int.reduceNeg, splice, Nat.reduceLeDiff, part, fillA, fillE, Nat.reduceLT]
    obtain ⟨v', m', h1, h2, h3⟩ := append_new (zero := [V.int .u8 0, V.int .u64 0, V.int .u64 0]) (bytes := 24) hv rfl (by omega) (by omega)
    refine ⟨v', m', h1, ?_⟩
    exact ⟨h2, h3, append_cap h1⟩
theorem All1_spec {m : Mem} (s : Slot) : C S n_ephem_All_1 [.agg (enc s)] m (fun r m' => r = .bool (decide (s.st ≠ 1)) ∧ Grow m m') := by
  refine C_body rfl rfl rfl ?_
  unfold ephem_All_1
  simp (maxDischargeDepth := 30) only [enc, amL, args0, Nat.reduceEqDiff, reduceCtorEq, ↓reduceIte, Nat.reduceAdd, resultsA, results1, Int.reduceNeg, splice, Nat.reduceLeDiff, part, fillA, fillE, Nat.reduceLT]
  exact (Grow.refl _).app
/-- the slots that are used. -/
def used (l : List Slot) : List Slot := l.filter fun s => decide (s.st = 1)
theorem IndexFunc_spec {m : Mem} {v : V} {l : List Slot} (hv : Sl m v 3 (encs l)) (hl : l.length < 2 ^ 60) : C S n_slices_IndexFunc_EphSlot [v, .fn n_ephem_All_1 [] []] m (fun r m' => Grow m m' ∧ ((r = .int .i64 (-1) ∧ used l = l) ∨ ∃ i s, r = .int .i64 (i : Nat) ∧ l[i]? = some s ∧ s.st ≠ 1 ∧ used (l.take i) = l.take i)) := by
  refine C_body rfl rfl rfl ?_
  unfold slices_IndexFunc_EphSlot
  have hlen : (encs l).length = l.length := by simp
  simp (maxDischargeDepth := 30) only [hv.len, hlen, amL, args0, Nat.reduceEqDiff, reduceCtorEq, ↓reduceIte, Nat.reduceAdd, resultsA, results1, Int.reduceNeg, splice, Nat.reduceLeDiff, part, fillA, fillE, Nat.reduceLT]
  let I := fun (k : Nat) (fr : Frame) (M : Mem) => ∃ i : Nat, i ≤ l.length ∧ k = l.length - i ∧ fr 0 = v ∧ fr 1 = .fn n_ephem_All_1 [] [] ∧ fr 7 = .int .i64 l.length ∧ fr 8 = .int .i64 i ∧ used (l.take i) = l.take i ∧ Grow m M
  refine W_loop I ?_ l.length ?_
  · rintro k fr M ⟨i, hi, rfl, h0, h1, h7, h8, hu, hg⟩
    unfold slices_IndexFunc_EphSlot_l0
    simp (maxDischargeDepth := 30) only [h0, h1, h7, h8, amL, args0, Nat.reduceEqDiff, reduceCtorEq, ↓reduceIte, Nat.reduceAdd, resultsA, results1, Int.reduceNeg, splice, Nat.reduceLeDiff, part, fillA, fillE, Nat.reduceLT]
    first | (refine O_split (by simp only [put_apply, Nat.reduceEqDiff, ↓reduceIte, reduceCtorEq]; rfl) (fun h => ?_) (fun h => ?_) <;> simp only [decide_eq_true_eq, decide_eq_false_iff_not, Decidable.not_not, Bool.and_eq_true, Bool.not_eq_true', Bool.not_eq_false'] at h) | (refine W_split (by simp only [get_t, put_apply, Nat.reduceEqDiff, ↓reduceIte, reduceCtorEq]; rfl) (fun h => ?_) (fun h => ?_) <;> simp only [decide_eq_true_eq, decide_eq_false_iff_not, Decidable.not_not, Bool.and_eq_true, Bool.not_eq_true', Bool.not_eq_false'] at h)
    · have hil : i < l.length := by omega
      obtain ⟨s, hs⟩ : ∃ s, l[i]? = some s := ⟨_, List.getElem?_eq_getElem hil⟩
      have hsl := hv.grow hg
      have ix := hsl.index (ki := .i64) (n := i) (by omega) (by omega)
      have ld := fun o k => hsl.load (o := o) (k := k) (encs_get hs)
      simp only [Int.toNat_natCast, enc] at ix ld
      have w1 : IntKind.i64.wrap ((i : Int) + 1) = ((i + 1 : Nat) : Int) := by rw [wrap_i64] <;> omega
      simp (maxDischargeDepth := 30) only [h, h0, h1, h7, h8, ix, ld, amL, args0, Nat.reduceEqDiff, reduceCtorEq, ↓reduceIte, Nat.reduceAdd, resultsA, results1, Int.reduceNeg, splice, Nat.reduceLeDiff, part, fillA, fillE, Nat.reduceLT]
      refine (All1_spec s).mono ?_
      rintro _ _ ⟨rfl, hg'⟩
      by_cases hst : s.st = 1
      · simp (maxDischargeDepth := 30) only [aft_mk, hst, h0, h1, h7, h8, w1, amL, args0, Nat.reduceEqDiff, reduceCtorEq, ↓reduceIte, Nat.reduceAdd, resultsA, results1, Int.reduceNeg, splice, Nat.reduceLeDiff, part, fillA, fillE, Nat.reduceLT]
        refine ⟨_, ?_, i + 1, by omega, rfl, ?_, ?_, ?_, ?_, ?_, hg.trans hg'⟩
        · omega
        · simp (maxDischargeDepth := 30) only [h0, amL, args0, Nat.reduceEqDiff, reduceCtorEq, ↓reduceIte, Nat.reduceAdd, resultsA, results1, Int.reduceNeg, splice, Nat.reduceLeDiff, part, fillA, fillE, Nat.reduceLT]
        · simp (maxDischargeDepth := 30) only [h1, amL, args0, Nat.reduceEqDiff, reduceCtorEq, ↓reduceIte, Nat.reduceAdd, resultsA, results1, Int.reduceNeg, splice, Nat.reduceLeDiff, part, fillA, fillE, Nat.reduceLT]
        · simp (maxDischargeDepth := 30) only [h7, amL, args0, Nat.reduceEqDiff, reduceCtorEq, ↓reduceIte, Nat.reduceAdd, resultsA, results1, Int.reduceNeg, splice, Nat.reduceLeDiff, part, fillA, fillE, Nat.reduceLT]
        · simp (maxDischargeDepth := 30) only [amL, args0, Nat.reduceEqDiff, reduceCtorEq, ↓reduceIte, Nat.reduceAdd, resultsA, results1, Int.reduceNeg, splice, Nat.reduceLeDiff, part, fillA, fillE, Nat.reduceLT]
        · obtain ⟨a1, e1⟩ := List.getElem?_eq_some_iff.1 hs
          rw [List.take_succ_eq_append_getElem a1, e1]
          unfold used at hu ⊢
          rw [List.filter_append, hu]
          simp [hst]
      · simp (maxDischargeDepth := 30) only [aft_mk, hst, h0, h1, h7, h8, w1, amL, args0, Nat.reduceEqDiff, reduceCtorEq, ↓reduceIte, Nat.reduceAdd, resultsA, results1, Int.reduceNeg, splice, Nat.reduceLeDiff, part, fillA, fillE, Nat.reduceLT]
        exact ⟨hg.trans hg', .inr ⟨i, s, rfl, hs, hst, hu⟩⟩
    · simp (maxDischargeDepth := 30) only [h, h0, h1, h7, h8, amL, args0, Nat.reduceEqDiff, reduceCtorEq, ↓reduceIte, Nat.reduceAdd, resultsA, results1, Int.reduceNeg, splice, Nat.reduceLeDiff, part, fillA, fillE, Nat.reduceLT]
      have : l.take i = l := List.take_of_length_le (by omega)
      rw [this] at hu
      exact ⟨hg, .inl hu⟩
  · exact ⟨0, by omega, rfl, by simp (maxDischargeDepth := 30) only [amL, args0, Nat.reduceEqDiff, reduceCtorEq, ↓reduceIte, Nat.reduceAdd, resultsA, results1, Int.reduceNeg, splice, Nat.reduceLeDiff, part, fillA, fillE, Nat.reduceLT], by simp (maxDischargeDepth := 30) only [amL, args0, Nat.reduceEqDiff, reduceCtorEq, ↓reduceIte, Nat.reduceAdd, resultsA, results1, Int.reduceNeg, splice, Nat.reduceLeDiff, part, fillA, fillE, Nat.reduceLT], by simp (maxDischargeDepth := 30) only [amL, args0, Nat.reduceEqDiff, reduceCtorEq, ↓reduceIte, Nat.reduceAdd, resultsA, results1, Int.reduceNeg, splice, Nat.reduceLeDiff, part, fillA, fillE, Nat.reduceLT], by simp (maxDischargeDepth := 30) only [amL, args0, Nat.reduceEqDiff, reduceCtorEq, ↓reduceIte, Nat.reduceAdd, resultsA, results1, Int.reduceNeg, splice, Nat.reduceLeDiff, part, fillA, fillE, Nat.reduceLT]; rfl, rfl, Grow.refl _⟩
/-- a slice that begins its own block. -/
def Pre (B : Nat) (M : Mem) (u : V) (l : List Slot) : Prop := (u = .nils ∧ l = []) ∨ ∃ b cap ex els, B ≤ b ∧ u = .slice b 0 l.length cap ex 3 ∧ M[b]? = some (.cells true els) ∧ els.take l.length = encs l
theorem Pre.sl {B : Nat} {M : Mem} {u : V} {l : List Slot} (h : Pre B M u l) : Sl M u 3 (encs l) := by
  rcases h with ⟨rfl, rfl⟩ | ⟨b, cap, ex, els, h1, rfl, h3, h4⟩
  · exact ⟨rfl, rfl⟩
  · have hl : l.length ≤ els.length := by
      have := congrArg List.length h4
      simp only [List.length_take, List.length_map] at this
      omega
    simp [Sl, elems, h3, zOk, hl, h4]
theorem used_snoc {l : List Slot} {j : Nat} {s : Slot} (hs : l[j]? = some s) : used (l.take (j + 1)) = used (l.take j) ++ (if s.st = 1 then [s] else []) := by
  obtain ⟨a1, e1⟩ := List.getElem?_eq_some_iff.1 hs
  rw [List.take_succ_eq_append_getElem a1, e1]
  unfold used
  rw [List.filter_append]
  congr 1
  by_cases h : s.st = 1 <;> simp [h]
theorem used_le {l : List Slot} {j : Nat} : (used (l.take j)).length ≤ j := by
  have := List.length_filter_le (fun s : Slot => decide (s.st = 1)) (l.take j)
  unfold used
  simp only [List.length_take] at this
  omega
theorem DeleteFunc_spec {m : Mem} {v : V} {l : List Slot} {m0 : Mem} {B : Nat} (hB : m0.length ≤ B) (hg0 : Grow m0 m) (hv : Fresh B m v 3 (encs l)) (hc : capOk v = true) (hl : l.length < 2 ^ 60) : C S n_slices_DeleteFunc_EphSlot [v, .fn n_ephem_All_1 [] []] m (fun r m' => Grow m0 m' ∧ Pre B m' r (used l)) := by
  refine C_body rfl rfl rfl ?_
  unfold slices_DeleteFunc_EphSlot
  have hlen : (encs l).length = l.length := by simp
  simp (maxDischargeDepth := 30) only [amL, args0, Nat.reduceEqDiff, reduceCtorEq, ↓reduceIte, Nat.reduceAdd, resultsA, results1, Int.reduceNeg, splice, Nat.reduceLeDiff, part, fillA, fillE, Nat.reduceLT]
  refine (IndexFunc_spec hv.1 hl).mono ?_
  rintro r m1 ⟨hg1, ⟨rfl, hu⟩ | ⟨i, s, rfl, hs, hst, hu⟩⟩
  · simp (maxDischargeDepth := 30) only [aft_mk, amL, args0, Nat.reduceEqDiff, reduceCtorEq, ↓reduceIte, Nat.reduceAdd, resultsA, results1, Int.reduceNeg, splice, Nat.reduceLeDiff, part, fillA, fillE, Nat.reduceLT]
    refine ⟨hg0.trans hg1, ?_⟩
    rw [hu]
    rcases (hv.grow hg1).cases with ⟨rfl, he⟩ | ⟨b, cap, ex, h1, rfl, h3⟩
    · exact .inl ⟨rfl, by simpa using he⟩
    · exact .inr ⟨b, cap, ex, _, h1, by simp, h3, by rw [← hlen, List.take_length]⟩
  obtain ⟨hil, hie⟩ := List.getElem?_eq_some_iff.1 hs
  rcases (hv.grow hg1).cases with ⟨rfl, he⟩ | ⟨b, cap, ex, h1, rfl, h3⟩
  · have : l.length = 0 := by rw [← hlen, he]; rfl
    omega
  have hcap : l.length ≤ cap := by simpa [capOk] using hc
  have c0 : ¬ (i : Int) = -1 := by omega
  have w0 : IntKind.i64.wrap ((i : Int) + 1) = ((i + 1 : Nat) : Int) := by rw [wrap_i64] <;> omega
  simp (maxDischargeDepth := 30) only [aft_mk, c0, w0, amL, args0, Nat.reduceEqDiff, reduceCtorEq, ↓reduceIte, Nat.reduceAdd, resultsA, results1, Int.reduceNeg, splice, Nat.reduceLeDiff, part, fillA, fillE, Nat.reduceLT]
  let I := fun (k : Nat) (fr : Frame) (M : Mem) => ∃ (j : Nat) (t : List Slot), j ≤ l.length ∧ k = l.length - j ∧ fr 0 = .slice b 0 l.length cap ex 3 ∧ fr 1 = .fn n_ephem_All_1 [] [] ∧ fr 5 = .int .i64 (used (l.take j)).length ∧ fr 6 = .int .i64 j ∧ Grow m0 M ∧ M[b]? = some (.cells true (encs t)) ∧ t.length = l.length ∧ t.take (used (l.take j)).length = used (l.take j) ∧ t.drop j = l.drop j ∧ (used (l.take j)).length < j
  rw [hlen]
  refine W_loop I ?_ (l.length - (i + 1)) ?_
  · rintro k fr M ⟨j, t, hj, rfl, f0, f1, f5, f6, hg, hMb, htl, htt, htd, hlt⟩
    unfold slices_DeleteFunc_EphSlot_l0
    simp (maxDischargeDepth := 30) only [f0, f1, f5, f6, amL, args0, Nat.reduceEqDiff, reduceCtorEq, ↓reduceIte, Nat.reduceAdd, resultsA, results1, Int.reduceNeg, splice, Nat.reduceLeDiff, part, fillA, fillE, Nat.reduceLT]
    have hsl : Sl M (.slice b 0 l.length cap ex 3) 3 (encs t) := by
      have : (encs t).length = l.length := by simp [htl]
      rw [← this]
      exact Sl.mk hMb
    have hel : (encs t).length = l.length := by simp [htl]
    generalize hn : (used (l.take j)).length = n at *
    first | (refine O_split (by simp only [put_apply, Nat.reduceEqDiff, ↓reduceIte, reduceCtorEq]; rfl) (fun h => ?_) (fun h => ?_) <;> simp only [decide_eq_true_eq, decide_eq_false_iff_not, Decidable.not_not, Bool.and_eq_true, Bool.not_eq_true', Bool.not_eq_false'] at h) | (refine W_split (by simp only [get_t, put_apply, Nat.reduceEqDiff, ↓reduceIte, reduceCtorEq]; rfl) (fun h => ?_) (fun h => ?_) <;> simp only [decide_eq_true_eq, decide_eq_false_iff_not, Decidable.not_not, Bool.and_eq_true, Bool.not_eq_true', Bool.not_eq_false'] at h)
    · have hjl : j < l.length := by omega
      obtain ⟨x, hx⟩ : ∃ x, l[j]? = some x := ⟨_, List.getElem?_eq_getElem hjl⟩
      have htx : t[j]? = some x := by
        have := congrArg (fun z : List Slot => z[0]?) htd
        simpa [List.getElem?_drop, hx] using this
      have hus := used_snoc hx
      have ix := hsl.index (ki := .i64) (n := j) (by omega) (by omega)
      have ld := fun o k => hsl.load (o := o) (k := k) (encs_get htx)
      simp only [Int.toNat_natCast, enc] at ix ld
      have w1 : IntKind.i64.wrap ((j : Int) + 1) = ((j + 1 : Nat) : Int) := by rw [wrap_i64] <;> omega
      have w2 : IntKind.i64.wrap ((n : Int) + 1) = ((n + 1 : Nat) : Int) := by rw [wrap_i64] <;> omega
      have l1 := fun k => load_at0 (M := M ++ [Blk.cells true [enc x]]) (b := M.length) (own := true) (el := enc x) (k := k) (j := 0) (by simp)
      simp only [enc] at l1
      simp (maxDischargeDepth := 30) only [h, f0, f1, f5, f6, ix, ld, l1, amL, args0, Nat.reduceEqDiff, reduceCtorEq, ↓reduceIte, Nat.reduceAdd, resultsA, results1, Int.reduceNeg, splice, Nat.reduceLeDiff, part, fillA, fillE, Nat.reduceLT]
      refine (All1_spec x).mono ?_
      rintro _ M' ⟨rfl, g', rfl⟩
      have hMb2 : (M ++ [Blk.cells true [[V.int .u8 x.st, V.int .u64 x.key, V.int .u64 x.val]]] ++ g')[b]? = some (.cells true (encs t)) := getElem?_grow (getElem?_grow hMb)
      have hg2 : Grow m0 (M ++ [Blk.cells true [[V.int .u8 x.st, V.int .u64 x.key, V.int .u64 x.val]]] ++ g') := hg.app.app
      have l2 := fun k => load_at0 (M := M ++ [Blk.cells true [[V.int .u8 x.st, V.int .u64 x.key, V.int .u64 x.val]]] ++ g') (b := M.length) (own := true) (el := [V.int .u8 x.st, V.int .u64 x.key, V.int .u64 x.val]) (k := k) (j := 0) (getElem?_grow (by simp))
      have hsl2 := (hsl.app (g := [Blk.cells true [[V.int .u8 x.st, V.int .u64 x.key, V.int .u64 x.val]]])).app (g := g')
      generalize M ++ [Blk.cells true [[V.int .u8 x.st, V.int .u64 x.key, V.int .u64 x.val]]] ++ g' = M2 at hMb2 hg2 l2 hsl2
      by_cases hxs : x.st = 1
      · rw [if_pos hxs] at hus
        have hn1 : (used (l.take (j + 1))).length = n + 1 := by rw [hus, List.length_append, hn]; rfl
        obtain ⟨y, hy⟩ : ∃ y, t[n]? = some y := ⟨_, List.getElem?_eq_getElem (by omega)⟩
        have ix2 := hsl2.index (ki := .i64) (n := n) (by omega) (by omega)
        have st := store_own (n := 3) (len := l.length) (cap := cap) (z := 3) (ex := ex) (x := .agg [.int .u8 x.st, .int .u64 x.key, .int .u64 x.val]) hMb2 (encs_get hy) rfl rfl rfl
        have e : (encs t).set n [.int .u8 x.st, .int .u64 x.key, .int .u64 x.val] = encs (t.set n x) := by simp [List.map_set, enc]
        simp only [Int.toNat_natCast, cells_agg, e] at ix2 st
        have hbl := (List.getElem?_eq_some_iff.1 hMb2).1
        have hn0 : ¬ ¬ x.st = 1 := fun h => h hxs
        simp (maxDischargeDepth := 30) only [aft_mk, hn0, f0, f1, f5, f6, l2, ix2, st, w1, w2, amL, args0, Nat.reduceEqDiff, reduceCtorEq, ↓reduceIte, Nat.reduceAdd, resultsA, results1, Int.reduceNeg, splice, Nat.reduceLeDiff, part, fillA, fillE, Nat.reduceLT]
        refine ⟨_, ?_, j + 1, t.set n x, by omega, rfl, ?_, ?_, ?_, ?_, hg2.set (by omega) _, List.getElem?_set_self hbl, by simp [htl], ?_, ?_, by rw [hn1]; omega⟩
        · omega
        · simp (maxDischargeDepth := 30) only [f0, amL, args0, Nat.reduceEqDiff, reduceCtorEq, ↓reduceIte, Nat.reduceAdd, resultsA, results1, Int.reduceNeg, splice, Nat.reduceLeDiff, part, fillA, fillE, Nat.reduceLT]
        · simp (maxDischargeDepth := 30) only [f1, amL, args0, Nat.reduceEqDiff, reduceCtorEq, ↓reduceIte, Nat.reduceAdd, resultsA, results1, Int.reduceNeg, splice, Nat.reduceLeDiff, part, fillA, fillE, Nat.reduceLT]
        · simp (maxDischargeDepth := 30) only [amL, args0, Nat.reduceEqDiff, reduceCtorEq, ↓reduceIte, Nat.reduceAdd, resultsA, results1, Int.reduceNeg, splice, Nat.reduceLeDiff, part, fillA, fillE, Nat.reduceLT]; rw [hn1]
        · simp (maxDischargeDepth := 30) only [amL, args0, Nat.reduceEqDiff, reduceCtorEq, ↓reduceIte, Nat.reduceAdd, resultsA, results1, Int.reduceNeg, splice, Nat.reduceLeDiff, part, fillA, fillE, Nat.reduceLT]
        · rw [hn1, List.take_set, hus]
          have a2 : t.take (n + 1) = t.take n ++ [y] := by
            obtain ⟨a3, e3⟩ := List.getElem?_eq_some_iff.1 hy
            rw [List.take_succ_eq_append_getElem a3, e3]
          rw [a2, htt, List.set_append_right _ _ (by rw [hn]; omega), hn]
          simp
        · rw [List.drop_set, if_pos (by omega)]
          have := congrArg (List.drop 1) htd
          simpa [List.drop_drop] using this
      · rw [if_neg hxs, List.append_nil] at hus
        simp (maxDischargeDepth := 30) only [aft_mk, hxs, f0, f1, f5, f6, w1, amL, args0, Nat.reduceEqDiff, reduceCtorEq, ↓reduceIte, Nat.reduceAdd, resultsA, results1, Int.reduceNeg, splice, Nat.reduceLeDiff, part, fillA, fillE, Nat.reduceLT]
        refine ⟨_, ?_, j + 1, t, by omega, rfl, ?_, ?_, ?_, ?_, hg2, hMb2, htl, by rw [hus, hn]; exact htt, ?_, by rw [hus, hn]; omega⟩
        · omega
        · simp (maxDischargeDepth := 30) only [f0, amL, args0, Nat.reduceEqDiff, reduceCtorEq, ↓reduceIte, Nat.reduceAdd, resultsA, results1, Int.reduceNeg, splice, Nat.reduceLeDiff, part, fillA, fillE, Nat.reduceLT]
        · simp (maxDischargeDepth := 30) only [f1, amL, args0, Nat.reduceEqDiff, reduceCtorEq, ↓reduceIte, Nat.reduceAdd, resultsA, results1, Int.reduceNeg, splice, Nat.reduceLeDiff, part, fillA, fillE, Nat.reduceLT]
        · simp (maxDischargeDepth := 30) only [f5, amL, args0, Nat.reduceEqDiff, reduceCtorEq, ↓reduceIte, Nat.reduceAdd, resultsA, results1, Int.reduceNeg, splice, Nat.reduceLeDiff, part, fillA, fillE, Nat.reduceLT]; rw [hus, hn]
        · simp (maxDischargeDepth := 30) only [amL, args0, Nat.reduceEqDiff, reduceCtorEq, ↓reduceIte, Nat.reduceAdd, resultsA, results1, Int.reduceNeg, splice, Nat.reduceLeDiff, part, fillA, fillE, Nat.reduceLT]
        · have := congrArg (List.drop 1) htd
          simpa [List.drop_drop] using this
    · have hjj : j = l.length := by omega
      subst hjj
      rw [List.take_length] at hn htt
      have hbl := (List.getElem?_eq_some_iff.1 hMb).1
      have sv1 : sliceV (.slice b 0 l.length cap ex 3) (some (.int .i64 n)) none none = some (.slice b n (l.length - n) (cap - n) ex 3) := by
        have e1 : n ≤ l.length := by omega
        simp [sliceV, bound, e1]
      have sv2 : sliceV (.slice b 0 l.length cap ex 3) none (some (.int .i64 n)) none = some (.slice b 0 n cap ex 3) := by
        have e1 : n ≤ cap := by omega
        simp [sliceV, bound, e1]
      have cl : clearV M [.int .u8 0, .int .u64 0, .int .u64 0] (.slice b n (l.length - n) (cap - n) ex 3) = some (undef, M.set b (.cells true (over (encs t) n (List.replicate (l.length - n) [.int .u8 0, .int .u64 0, .int .u64 0])))) := by
        have e1 : n + (l.length - n) ≤ l.length := by omega
        simp [clearV, hMb, htl, e1]
      simp (maxDischargeDepth := 30) only [h, f0, f1, f5, f6, Option.map_none, sv1, sv2, cl, zOk, amL, args0, Nat.reduceEqDiff, reduceCtorEq, ↓reduceIte, Nat.reduceAdd, resultsA, results1, Int.reduceNeg, splice, Nat.reduceLeDiff, part, fillA, fillE, Nat.reduceLT]
      refine ⟨_, _, rfl, hg.set (by omega) _, .inr ⟨b, cap, ex, _, h1, by rw [hn], List.getElem?_set_self hbl, ?_⟩⟩
      rw [hn]
      unfold over
      rw [List.take_append_of_le_length (by simp; omega), List.take_take, Nat.min_self, ← List.map_take, htt]
  · refine ⟨i + 1, l, by omega, rfl, by simp (maxDischargeDepth := 30) only [amL, args0, Nat.reduceEqDiff, reduceCtorEq, ↓reduceIte, Nat.reduceAdd, resultsA, results1, Int.reduceNeg, splice, Nat.reduceLeDiff, part, fillA, fillE, Nat.reduceLT], by simp (maxDischargeDepth := 30) only [amL, args0, Nat.reduceEqDiff, reduceCtorEq, ↓reduceIte, Nat.reduceAdd, resultsA, results1, Int.reduceNeg, splice, Nat.reduceLeDiff, part, fillA, fillE, Nat.reduceLT], ?_, by simp (maxDischargeDepth := 30) only [amL, args0, Nat.reduceEqDiff, reduceCtorEq, ↓reduceIte, Nat.reduceAdd, resultsA, results1, Int.reduceNeg, splice, Nat.reduceLeDiff, part, fillA, fillE, Nat.reduceLT], hg0.trans hg1, h3, rfl, ?_, rfl, ?_⟩
    all_goals have hus := used_snoc hs
    all_goals rw [if_neg hst, List.append_nil, hu] at hus
    all_goals rw [hus]
    · simp (maxDischargeDepth := 30) only [amL, args0, Nat.reduceEqDiff, reduceCtorEq, ↓reduceIte, Nat.reduceAdd, resultsA, results1, Int.reduceNeg, splice, Nat.reduceLeDiff, part, fillA, fillE, Nat.reduceLT]; simp; omega
    · simp [List.take_take]
    · simp; omega
theorem lt_swo : Go.Sort.SWO ltKey where
  irrefl x := by unfold ltKey; simp
  trans x y z h1 h2 := by unfold ltKey at *; simp at *; omega
  ntrans x y z h1 h2 := by unfold ltKey at *; simp at *; omega
theorem srt_sorts (d : Array Slot) : Go.Sort.PermIn 0 d.size d (srtA d) ∧ Go.Sort.SortedIn ltKey 0 d.size (srtA d) := Go.Sort.pdq_sorts ltKey lt_swo d 0 d.size (Lib.bitLen d.size) true true (Nat.zero_le _) (Nat.le_refl _) (Or.inl rfl)
theorem srtL_len {d : List Slot} : (srtL d).length = d.length := by
  have := (srt_sorts d.toArray).1.1
  simpa [srtL] using this
theorem srtL_perm {d : List Slot} : (srtL d).Perm d := by
  have h := (srt_sorts d.toArray).1.2.2
  have hl := (srt_sorts d.toArray).1.1
  simp only [List.size_toArray] at h hl
  have e1 : ((srtA d.toArray).extract 0 d.length).toList = srtL d := by
    unfold srtL
    rw [← hl]
    simp
  have e2 : (d.toArray.extract 0 d.length).toList = d := by simp
  rwa [e1, e2] at h
theorem srtL_sorted {d : List Slot} {i j : Nat} {a b : Slot} (hij : i < j) (ha : (srtL d)[i]? = some a) (hb : (srtL d)[j]? = some b) : a.key ≤ b.key := by
  have h := (srt_sorts d.toArray).2
  have hl := (srt_sorts d.toArray).1.1
  have hj := (List.getElem?_eq_some_iff.1 hb).1
  rw [srtL_len] at hj
  have := h i j (Nat.zero_le _) hij (by simpa using hj)
  have g : ∀ (x : Nat) (y : Slot), (srtL d)[x]? = some y → (srtA d.toArray)[x]! = y := by
    intro x y hy
    unfold srtL at hy
    rw [Array.getElem!_eq_getD, Array.getD_eq_getD_getElem?, ← Array.getElem?_toList, hy]
    rfl
  rw [g i a ha, g j b hb] at this
  unfold ltKey at this
  simpa using this
theorem sort_spec {m0 M : Mem} {B : Nat} {u : V} {d : List Slot} (h : Pre B M u d) (hd : d.length < 2 ^ 60) (hg0 : Grow m0 M) (hB : m0.length ≤ B) : C S n_slices_SortFunc_EphSlot [u, .fn n_ephem_All_2 [] []] M (fun r m' => r = .tup [] ∧ Grow m0 m' ∧ Pre B m' u (srtL d)) := by
  rcases h with ⟨rfl, rfl⟩ | ⟨b, cap, ex, els, h1, rfl, h3, h4⟩
  · have : srtL [] = [] := List.length_eq_zero_iff.1 (by rw [srtL_len]; rfl)
    exact ⟨1, _, _, rfl, rfl, hg0, .inl ⟨rfl, this⟩⟩
  · have hbl := (List.getElem?_eq_some_iff.1 h3).1
    refine ⟨1, _, _, tSort_eq (cap := cap) (ex := ex) h3 (by omega) h4, rfl, hg0.set (by omega) _, .inr ⟨b, cap, ex, _, h1, by rw [srtL_len], List.getElem?_set_self hbl, ?_⟩⟩
    rw [srtL_len, List.take_append_of_le_length (by simp [srtL_len])]
    rw [List.take_of_length_le (by simp [srtL_len])]
def blkOf : V → Option Nat
  | .slice b _ _ _ _ _ => some b
  | _ => none
/-- a slice that grows by appends alone. -/
def Psh (B : Nat) (M : Mem) (u : V) (els : List (List V)) : Prop := (u = .nils ∧ els = []) ∨ ∃ b, B ≤ b ∧ u = .slice b 0 els.length els.length false 1 ∧ M[b]? = some (.cells true els)
theorem Psh.sl {B : Nat} {M : Mem} {u : V} {els : List (List V)} (h : Psh B M u els) : Sl M u 1 els := by
  rcases h with ⟨rfl, rfl⟩ | ⟨b, _, rfl, h⟩
  · exact ⟨rfl, rfl⟩
  · exact Sl.mk h
theorem Psh.keep {B : Nat} {M M' : Mem} {u : V} {els : List (List V)} (h : Psh B M u els) (hk : ∀ c y, blkOf u = some c → M[c]? = some y → M'[c]? = some y) : Psh B M' u els := by
  rcases h with h | ⟨b, h1, rfl, h3⟩
  · exact .inl h
  · exact .inr ⟨b, h1, rfl, hk b _ rfl h3⟩
theorem Psh.blk {B : Nat} {M : Mem} {u : V} {els : List (List V)} (h : Psh B M u els) {c : Nat} (hc : blkOf u = some c) : B ≤ c ∧ c < M.length := by
  rcases h with ⟨rfl, _⟩ | ⟨b, h1, rfl, h3⟩
  · cases hc
  · cases hc
    exact ⟨h1, (List.getElem?_eq_some_iff.1 h3).1⟩
theorem push {B : Nat} {M : Mem} {u x z : V} {T bytes : Nat} {own : Bool} {els : List (List V)} (h : Psh B M u els) (hT : M[T]? = some (.cells own [[x]])) (hr : roomy (els.length + 1) bytes = true) (hB : B ≤ M.length) (hTu : blkOf u ≠ some T) :
    ∃ u' M', appendV M [z] bytes u (.slice T 0 1 1 true 1) = some (u', M') ∧ Psh B M' u' (els ++ [[x]]) ∧ (∀ c y, blkOf u ≠ some c → M[c]? = some y → M'[c]? = some y) ∧ blkOf u' = some M.length ∧ M'.length = M.length + 1 := by
  have he : elems M (.slice T 0 1 1 true 1) = some [[x]] := by simp [elems, hT]
  rcases h with ⟨rfl, rfl⟩ | ⟨b, h1, rfl, h3⟩
  · refine ⟨.slice M.length 0 1 1 false 1, M ++ [.cells true [[x]]], ?_, .inr ⟨M.length, hB, rfl, by simp⟩, fun c y _ hy => getElem?_grow hy, rfl, by simp⟩
    have hr' : roomy 1 bytes = true := hr
    simp [appendV, he, zOk, hr']
  · have hbl := (List.getElem?_eq_some_iff.1 h3).1
    refine ⟨.slice M.length 0 (els.length + 1) (els.length + 1) false 1, M.set b .dead ++ [.cells true (els ++ [[x]])], ?_, .inr ⟨M.length, hB, by simp, ?_⟩, fun c y hc hy => ?_, rfl, by simp⟩
    · simp [appendV, he, zOk, h3, hr]
    · rw [List.getElem?_append_right (by simp)]; simp
    · refine getElem?_grow ?_
      rw [List.getElem?_set_ne (fun e => hc (by rw [e]; rfl))]
      exact hy
theorem Grow.keep {m0 M M' : Mem} (hg : Grow m0 M) (h : ∀ (c : Nat) y, c < m0.length → M[c]? = some y → M'[c]? = some y) : Grow m0 M' := by
  refine ⟨M'.drop m0.length, ?_⟩
  have : M'.take m0.length = m0 := by
    apply List.ext_getElem?
    intro i
    by_cases hi : i < m0.length
    · rw [List.getElem?_take, if_pos hi]
      have h0 := List.getElem?_eq_getElem hi
      rw [h0]
      exact h i _ hi (hg.get h0)
    · rw [List.getElem?_eq_none (by simp; omega), List.getElem?_eq_none (by omega)]
  conv => lhs; rw [← List.take_append_drop m0.length M', this]
end Go.AM.G
