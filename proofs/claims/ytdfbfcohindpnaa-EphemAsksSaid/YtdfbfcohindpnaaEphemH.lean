/- Part of the proof: contracts of functions of the given program on an abstract machine. -/
import Derived.Test.YtdfbfcohindpnaaEphemG
set_option linter.unusedVariables false
set_option linter.unusedSimpArgs false
set_option maxRecDepth 100000
namespace Go.AM.G
open Go Go.AM
theorem Home_spec {m : Mem} (key n : Int) : C S n_ephem_Home [.int .u64 key, .int .i64 n] m (fun r m' => r = .tup [.int .i64 (if Pow n then homeI key n else 0), .int .i64 (if Pow n then 0 else 1)] ∧ m = m') := by
  refine C_body rfl rfl rfl ?_
  unfold ephem_Home
  simp (maxDischargeDepth := 30) only [amL, args0, Nat.reduceEqDiff, reduceCtorEq, ↓reduceIte, Nat.reduceAdd, resultsA, results1, Int.reduceNeg, splice, Nat.reduceLeDiff, part, fillA, fillE, Nat.reduceLT]
  refine (sized_spec n _).mono ?_
  rintro _ _ ⟨rfl, rfl⟩
  by_cases h : Pow n
  · simp (maxDischargeDepth := 30) only [aft_mk, h, amL, args0, Nat.reduceEqDiff, reduceCtorEq, ↓reduceIte, Nat.reduceAdd, resultsA, results1, Int.reduceNeg, splice, Nat.reduceLeDiff, part, fillA, fillE, Nat.reduceLT]
    refine (home_spec key n _ h).mono ?_
    rintro _ _ ⟨rfl, rfl⟩
    simp (maxDischargeDepth := 30) only [aft_mk, h, amL, args0, Nat.reduceEqDiff, reduceCtorEq, ↓reduceIte, Nat.reduceAdd, resultsA, results1, Int.reduceNeg, splice, Nat.reduceLeDiff, part, fillA, fillE, Nat.reduceLT]
  · simp (maxDischargeDepth := 30) only [aft_mk, h, amL, args0, Nat.reduceEqDiff, reduceCtorEq, ↓reduceIte, Nat.reduceAdd, resultsA, results1, Int.reduceNeg, splice, Nat.reduceLeDiff, part, fillA, fillE, Nat.reduceLT]
def delStep (t : List Slot × Nat) (k : Int) : List Slot × Nat := if (findL t.1 k).2 = true then (t.1.set (findL t.1 k).1 ⟨2, 0, 0⟩, t.2 + 1) else t
def delL (l : List Slot) (keys : List Int) : List Slot × Int × Int :=
  if validB l = true then let r := keys.foldl delStep (l, 0); (r.1, r.2, 0) else ([], 0, 2)
abbrev ints (keys : List Int) : List (List V) := keys.map fun k => [.int .u64 k]
theorem enc_ne {M : Mem} {b bt : Nat} {t : List Slot} {u : V} (h1 : M[bt]? = some (.cells true [[u]])) (h2 : M[b]? = some (.cells true (encs t))) : b ≠ bt := by
  rintro rfl
  rw [h1] at h2
  have this := congrArg (fun x : Option Blk => match x with | some (.cells _ els) => els | _ => []) h2
  simp only at this
  have h3 : ∀ el ∈ [[u]], el.length = 3 := by rw [this]; exact encs_z
  have := h3 _ (List.mem_singleton.2 rfl)
  simp at this
theorem cnt_set_eq {l : List Slot} {i : Nat} {s s' : Slot} (h : l[i]? = some s) (h1 : s.st ≠ 0) (h2 : s'.st ≠ 0) : cnt 0 (l.set i s') = cnt 0 l := by
  induction l generalizing i with
  | nil => simp at h
  | cons a l ih =>
    cases i with
    | zero => simp at h; subst h; simp [cnt, List.countP_cons, h1, h2]
    | succ i => simpa [cnt, List.countP_cons] using ih (i := i) (by simpa using h)
theorem delStep_spec {t : List Slot × Nat} {k : Int} (h : t.1.length = 0 ∨ Pow t.1.length) : (delStep t k).1.length = t.1.length ∧ cnt 0 (delStep t k).1 = cnt 0 t.1 ∧ (delStep t k).2 ≤ t.2 + 1 := by
  unfold delStep
  split
  · rename_i hf
    rcases h with h | h
    · simp [findL, h] at hf
    · obtain ⟨_, h2⟩ := findL_spec (key := k) h
      obtain ⟨s, hs, h1, _⟩ := h2 hf
      exact ⟨by simp, cnt_set_eq hs (by omega) (by decide), by simp⟩
  · exact ⟨rfl, rfl, by omega⟩
theorem del_fold {keys : List Int} {t : List Slot × Nat} (h : t.1.length = 0 ∨ Pow t.1.length) : (keys.foldl delStep t).1.length = t.1.length ∧ cnt 0 (keys.foldl delStep t).1 = cnt 0 t.1 ∧ (keys.foldl delStep t).2 ≤ t.2 + keys.length := by
  induction keys generalizing t with
  | nil => simp
  | cons k keys ih =>
    obtain ⟨a1, a2, a3⟩ := delStep_spec (k := k) h
    obtain ⟨b1, b2, b3⟩ := ih (t := delStep t k) (by rw [a1]; exact h)
    simp only [List.foldl_cons, List.length_cons]
    exact ⟨b1.trans a1, b2.trans a2, by omega⟩
theorem Del_spec {m : Mem} {v w : V} {l : List Slot} {keys : List Int} (hv : Sl m v 3 (encs l)) (hw : Sl m w 1 (ints keys)) (hl : l.length < 5864062014806) (hkl : keys.length < 2 ^ 60) : C S n_ephem_Del [.agg [v], w] m (fun r m' => ∃ v', r = .tup [.agg [v'], .int .i64 (delL l keys).2.1, .int .i64 (delL l keys).2.2] ∧ Grow m m' ∧ Fresh m.length m' v' 3 (encs (delL l keys).1)) := by
  refine C_body rfl rfl rfl ?_
  unfold ephem_Del
  have hcell := hv.cell
  simp (maxDischargeDepth := 30) only [hcell, amL, args0, Nat.reduceEqDiff, reduceCtorEq, ↓reduceIte, Nat.reduceAdd, resultsA, results1, Int.reduceNeg, splice, Nat.reduceLeDiff, part, fillA, fillE, Nat.reduceLT]
  refine (Check_spec hv.app.app (by omega)).mono ?_
  rintro _ _ ⟨rfl, g, rfl⟩
  by_cases hval : validB l = true
  · have hvc := valid_cases hval
    simp (maxDischargeDepth := 30) only [aft_mk, hval, hcell, amL, args0, Nat.reduceEqDiff, reduceCtorEq, ↓reduceIte, Nat.reduceAdd, resultsA, results1, Int.reduceNeg, splice, Nat.reduceLeDiff, part, fillA, fillE, Nat.reduceLT]
    refine (Own_spec hv.app.app.app hl).mono ?_
    rintro _ _ ⟨u, rfl, ⟨g2, rfl⟩, hu⟩
    have huc := hu.1.cell
    have hlk : (ints keys).length = keys.length := by simp
    have hw1 := hw.app (g := [Blk.cells true [[v]]]) |>.app (g := [Blk.cells true [[V.nils]]]) |>.app (g := g) |>.app (g := g2)
    simp (maxDischargeDepth := 30) only [aft_mk, huc, hw.len, hlk, amL, args0, Nat.reduceEqDiff, reduceCtorEq, ↓reduceIte, Nat.reduceAdd, resultsA, results1, Int.reduceNeg, splice, Nat.reduceLeDiff, part, fillA, fillE, Nat.reduceLT]
    generalize hM : m ++ [Blk.cells true [[v]]] ++ [Blk.cells true [[V.nils]]] ++ g ++ g2 = M at hu hw1
    generalize hR : List.length (m ++ [Blk.cells true [[v]]]) = R
    have hgM : Grow (m ++ [Blk.cells true [[v]]] ++ [Blk.cells true [[V.nils]]]) M := by rw [← hM]; exact (Grow.refl _).app.app
    have hg0 : Grow m M := by rw [← hM]; exact (Grow.refl _).app.app.app.app
    have hRM : M[R]? = some (.cells true [[.nils]]) := hgM.get (by rw [← hR]; simp)
    have hmR : m.length ≤ R := by rw [← hR]; simp
    have hRl := (List.getElem?_eq_some_iff.1 hRM).1
    have hBu : R + 1 ≤ (m ++ [Blk.cells true [[v]]] ++ [Blk.cells true [[V.nils]]] ++ g).length := by rw [← hR]; simp; omega
    have hu' := hu.weaken hBu
    clear hM hgM hu hBu hw1
    have hlen : (encs l).length = l.length := by simp
    generalize hbt : M.length = bt
    have hbtM : (M ++ [Blk.cells true [[u]]])[bt]? = some (.cells true [[u]]) := by rw [← hbt]; simp
    have hRbt : R < bt := by omega
    have hpc : l.length = 0 ∨ Pow l.length := hvc.imp id And.left
    let T := fun (i : Nat) => (keys.take i).foldl delStep (l, 0)
    have hTs : ∀ i k, keys[i]? = some k → T (i + 1) = delStep (T i) k := by
      intro i k hk
      obtain ⟨a1, e1⟩ := List.getElem?_eq_some_iff.1 hk
      simp only [T]
      rw [List.take_succ_eq_append_getElem a1, e1, List.foldl_append]
      rfl
    have hTi : ∀ i, (T i).1.length = l.length ∧ cnt 0 (T i).1 = cnt 0 l ∧ (T i).2 ≤ i := by
      intro i
      obtain ⟨a, b, c⟩ := del_fold (keys := keys.take i) (t := (l, 0)) hpc
      refine ⟨a, b, ?_⟩
      simp only [List.length_take] at c
      simp only [T]
      omega
    have hTl : T keys.length = keys.foldl delStep (l, 0) := by simp only [T, List.take_length]
    let J := fun (n : Nat) (fr : Frame) (M' : Mem) => ∃ i : Nat, i ≤ keys.length ∧ n = keys.length - i ∧ fr 8 = .ptr bt 0 0 ∧ fr 4 = .ptr R 0 0 ∧ fr 24 = w ∧ fr 25 = .int .i64 keys.length ∧ fr 26 = .int .i64 i ∧ fr 9 = .int .i64 (T i).2 ∧ Grow m M' ∧ M'[bt]? = some (.cells true [[u]]) ∧ M'[R]? = some (.cells true [[.nils]]) ∧ Fresh (R + 1) M' u 3 (encs (T i).1)
    refine W_loop J ?_ keys.length ?_
    · rintro n fr M1 ⟨i, hi, rfl, f8, f4, f24, f25, f26, f9, hg, hb1, hR1, hu1⟩
      unfold ephem_Del_l0
      simp (maxDischargeDepth := 30) only [f8, f4, f24, f25, f26, f9, amL, args0, Nat.reduceEqDiff, reduceCtorEq, ↓reduceIte, Nat.reduceAdd, resultsA, results1, Int.reduceNeg, splice, Nat.reduceLeDiff, part, fillA, fillE, Nat.reduceLT]
      first | (refine O_split (by simp only [put_apply, Nat.reduceEqDiff, ↓reduceIte, reduceCtorEq]; rfl) (fun h => ?_) (fun h => ?_) <;> simp only [decide_eq_true_eq, decide_eq_false_iff_not, Decidable.not_not, Bool.and_eq_true, Bool.not_eq_true', Bool.not_eq_false'] at h) | (refine W_split (by simp only [get_t, put_apply, Nat.reduceEqDiff, ↓reduceIte, reduceCtorEq]; rfl) (fun h => ?_) (fun h => ?_) <;> simp only [decide_eq_true_eq, decide_eq_false_iff_not, Decidable.not_not, Bool.and_eq_true, Bool.not_eq_true', Bool.not_eq_false'] at h)
      · have hil : i < keys.length := by omega
        obtain ⟨k, hk⟩ : ∃ k, keys[i]? = some k := ⟨_, List.getElem?_eq_getElem hil⟩
        have hwl := hw.grow hg
        have ix := hwl.index (ki := .i64) (n := i) (by omega) (by omega)
        have ld := fun o j => hwl.load (o := o) (k := j) (i := i) (el := [.int .u64 k]) (by simp [hk])
        simp only [Int.toNat_natCast] at ix ld
        have w1 : IntKind.i64.wrap ((i : Int) + 1) = ((i + 1 : Nat) : Int) := by rw [wrap_i64] <;> omega
        obtain ⟨t1, t2, t3⟩ := hTi i
        have hTc : (T i).1.length = 0 ∨ Pow (T i).1.length ∧ 0 < cnt 0 (T i).1 := by rw [t1, t2]; exact hvc
        have w2 : IntKind.i64.wrap (((T i).2 : Int) + 1) = (((T i).2 + 1 : Nat) : Int) := by rw [wrap_i64] <;> omega
        simp (maxDischargeDepth := 30) only [h, f8, f4, f24, f25, f26, f9, ix, ld, amL, args0, Nat.reduceEqDiff, reduceCtorEq, ↓reduceIte, Nat.reduceAdd, resultsA, results1, Int.reduceNeg, splice, Nat.reduceLeDiff, part, fillA, fillE, Nat.reduceLT]
        refine (find_spec k (load_at0 hb1) rfl hu1.1 hTc).mono ?_
        rintro _ _ ⟨rfl, g3, rfl⟩
        by_cases hf : (findL (T i).1 k).2 = true
        · have hTn : T (i + 1) = ((T i).1.set (findL (T i).1 k).1 ⟨2, 0, 0⟩, (T i).2 + 1) := by rw [hTs i k hk, delStep, if_pos hf]
          have hn0 : (T i).1.length ≠ 0 := by intro h0; simp [findL, h0] at hf
          obtain ⟨hpow, _⟩ := hTc.resolve_left hn0
          obtain ⟨hfi, hfs⟩ := findL_spec (key := k) hpow
          obtain ⟨s, hs, hs1, _⟩ := hfs hf
          have ht3 : (encs (T i).1).length = (T i).1.length := by simp
          rcases hu1.cases with ⟨_, h0⟩ | ⟨b, cap, ex, hbR, rfl, hb3⟩
          · rw [← ht3, h0] at hn0; exact absurd rfl hn0
          have hbb := enc_ne hb1 hb3
          have ix2 := hu1.1.index (ki := .i64) (n := (findL (T i).1 k).1) (by omega) (by omega)
          have st := store_own (n := 3) (len := (encs (T i).1).length) (cap := cap) (z := 3) (ex := ex) (x := .agg [.int .u8 2, .int .u64 0, .int .u64 0]) hb3 (encs_get hs) rfl rfl rfl
          have e : (encs (T i).1).set (findL (T i).1 k).1 [.int .u8 2, .int .u64 0, .int .u64 0] = encs (T (i + 1)).1 := by rw [hTn]; simp [List.map_set, enc]
          simp only [Int.toNat_natCast, cells_agg, e] at ix2 st
          have l1 := fun k => load_at0 (k := k) (j := 0) hb1
          have hbl := (List.getElem?_eq_some_iff.1 hb3).1
          simp (maxDischargeDepth := 30) only [aft_mk, hf, f8, f4, f24, f25, f26, f9, l1, ix2, st, w1, w2, amL, args0, Nat.reduceEqDiff, reduceCtorEq, ↓reduceIte, Nat.reduceAdd, resultsA, results1, Int.reduceNeg, splice, Nat.reduceLeDiff, part, fillA, fillE, Nat.reduceLT]
          refine ⟨_, ?_, i + 1, by omega, rfl, ?_, ?_, ?_, ?_, ?_, ?_, (hg.set (by omega) _).app, ?_, ?_, ?_⟩
          · omega
          · simp (maxDischargeDepth := 30) only [f8, amL, args0, Nat.reduceEqDiff, reduceCtorEq, ↓reduceIte, Nat.reduceAdd, resultsA, results1, Int.reduceNeg, splice, Nat.reduceLeDiff, part, fillA, fillE, Nat.reduceLT]
          · simp (maxDischargeDepth := 30) only [f4, amL, args0, Nat.reduceEqDiff, reduceCtorEq, ↓reduceIte, Nat.reduceAdd, resultsA, results1, Int.reduceNeg, splice, Nat.reduceLeDiff, part, fillA, fillE, Nat.reduceLT]
          · simp (maxDischargeDepth := 30) only [f24, amL, args0, Nat.reduceEqDiff, reduceCtorEq, ↓reduceIte, Nat.reduceAdd, resultsA, results1, Int.reduceNeg, splice, Nat.reduceLeDiff, part, fillA, fillE, Nat.reduceLT]
          · simp (maxDischargeDepth := 30) only [f25, amL, args0, Nat.reduceEqDiff, reduceCtorEq, ↓reduceIte, Nat.reduceAdd, resultsA, results1, Int.reduceNeg, splice, Nat.reduceLeDiff, part, fillA, fillE, Nat.reduceLT]
          · simp (maxDischargeDepth := 30) only [amL, args0, Nat.reduceEqDiff, reduceCtorEq, ↓reduceIte, Nat.reduceAdd, resultsA, results1, Int.reduceNeg, splice, Nat.reduceLeDiff, part, fillA, fillE, Nat.reduceLT]
          · simp (maxDischargeDepth := 30) only [amL, args0, Nat.reduceEqDiff, reduceCtorEq, ↓reduceIte, Nat.reduceAdd, resultsA, results1, Int.reduceNeg, splice, Nat.reduceLeDiff, part, fillA, fillE, Nat.reduceLT]; rw [hTn]
          · exact getElem?_grow (by rw [List.getElem?_set_ne hbb]; exact hb1)
          · exact getElem?_grow (by rw [List.getElem?_set_ne (by omega)]; exact hR1)
          · refine Fresh.mk (.inr ⟨b, cap, ex, hbR, ?_, getElem?_grow (List.getElem?_set_self hbl)⟩)
            rw [hTn]; simp
        · have hTn : T (i + 1) = T i := by rw [hTs i k hk, delStep, if_neg hf]
          simp (maxDischargeDepth := 30) only [aft_mk, hf, f8, f4, f24, f25, f26, f9, w1, w2, amL, args0, Nat.reduceEqDiff, reduceCtorEq, ↓reduceIte, Nat.reduceAdd, resultsA, results1, Int.reduceNeg, splice, Nat.reduceLeDiff, part, fillA, fillE, Nat.reduceLT]
          refine ⟨_, ?_, i + 1, by omega, rfl, ?_, ?_, ?_, ?_, ?_, ?_, hg.app, getElem?_grow hb1, getElem?_grow hR1, ?_⟩
          · omega
          · simp (maxDischargeDepth := 30) only [f8, amL, args0, Nat.reduceEqDiff, reduceCtorEq, ↓reduceIte, Nat.reduceAdd, resultsA, results1, Int.reduceNeg, splice, Nat.reduceLeDiff, part, fillA, fillE, Nat.reduceLT]
          · simp (maxDischargeDepth := 30) only [f4, amL, args0, Nat.reduceEqDiff, reduceCtorEq, ↓reduceIte, Nat.reduceAdd, resultsA, results1, Int.reduceNeg, splice, Nat.reduceLeDiff, part, fillA, fillE, Nat.reduceLT]
          · simp (maxDischargeDepth := 30) only [f24, amL, args0, Nat.reduceEqDiff, reduceCtorEq, ↓reduceIte, Nat.reduceAdd, resultsA, results1, Int.reduceNeg, splice, Nat.reduceLeDiff, part, fillA, fillE, Nat.reduceLT]
          · simp (maxDischargeDepth := 30) only [f25, amL, args0, Nat.reduceEqDiff, reduceCtorEq, ↓reduceIte, Nat.reduceAdd, resultsA, results1, Int.reduceNeg, splice, Nat.reduceLeDiff, part, fillA, fillE, Nat.reduceLT]
          · simp (maxDischargeDepth := 30) only [amL, args0, Nat.reduceEqDiff, reduceCtorEq, ↓reduceIte, Nat.reduceAdd, resultsA, results1, Int.reduceNeg, splice, Nat.reduceLeDiff, part, fillA, fillE, Nat.reduceLT]
          · simp (maxDischargeDepth := 30) only [f9, amL, args0, Nat.reduceEqDiff, reduceCtorEq, ↓reduceIte, Nat.reduceAdd, resultsA, results1, Int.reduceNeg, splice, Nat.reduceLeDiff, part, fillA, fillE, Nat.reduceLT]; rw [hTn]
          · rw [hTn]; exact hu1.app
      · have : i = keys.length := by omega
        subst this
        have l1 := fun k => load_at0 (k := k) (j := 0) hb1
        have s1 := store_at0 (x := .agg [u]) (j := 0) (n := 1) hR1 rfl (by simp) (by simp [cells_agg, huc])
        have hRl1 := (List.getElem?_eq_some_iff.1 hR1).1
        have l2 := fun k => load_set0 (M := M1) (b := R) (own := true) (el := [u]) (k := k) (j := 0) hRl1
        simp only [cells_agg, splice, List.take_zero, List.nil_append, List.cons_append, List.length_cons, List.length_nil, Nat.zero_add, List.drop_succ_cons, List.drop_nil] at s1
        simp (maxDischargeDepth := 30) only [h, f8, f4, f24, f25, f26, f9, l1, s1, l2, amL, args0, Nat.reduceEqDiff, reduceCtorEq, ↓reduceIte, Nat.reduceAdd, resultsA, results1, Int.reduceNeg, splice, Nat.reduceLeDiff, part, fillA, fillE, Nat.reduceLT]
        have e1 : (delL l keys).1 = (T keys.length).1 := by simp [delL, hval, hTl]
        have e2 : (delL l keys).2.1 = (T keys.length).2 := by simp [delL, hval, hTl]
        have e3 : (delL l keys).2.2 = 0 := by simp [delL, hval]
        rw [e1, e2, e3]
        refine ⟨u, rfl, hg.set hmR _, ?_⟩
        refine (hu1.to (fun b x hb hx => ?_)).weaken (show m.length ≤ R + 1 by omega)
        rw [List.getElem?_set_ne (by omega)]
        exact hx
    · refine ⟨0, by omega, rfl, by simp (maxDischargeDepth := 30) only [amL, args0, Nat.reduceEqDiff, reduceCtorEq, ↓reduceIte, Nat.reduceAdd, resultsA, results1, Int.reduceNeg, splice, Nat.reduceLeDiff, part, fillA, fillE, Nat.reduceLT], by simp (maxDischargeDepth := 30) only [amL, args0, Nat.reduceEqDiff, reduceCtorEq, ↓reduceIte, Nat.reduceAdd, resultsA, results1, Int.reduceNeg, splice, Nat.reduceLeDiff, part, fillA, fillE, Nat.reduceLT], by simp (maxDischargeDepth := 30) only [amL, args0, Nat.reduceEqDiff, reduceCtorEq, ↓reduceIte, Nat.reduceAdd, resultsA, results1, Int.reduceNeg, splice, Nat.reduceLeDiff, part, fillA, fillE, Nat.reduceLT], by simp (maxDischargeDepth := 30) only [amL, args0, Nat.reduceEqDiff, reduceCtorEq, ↓reduceIte, Nat.reduceAdd, resultsA, results1, Int.reduceNeg, splice, Nat.reduceLeDiff, part, fillA, fillE, Nat.reduceLT], by simp (maxDischargeDepth := 30) only [amL, args0, Nat.reduceEqDiff, reduceCtorEq, ↓reduceIte, Nat.reduceAdd, resultsA, results1, Int.reduceNeg, splice, Nat.reduceLeDiff, part, fillA, fillE, Nat.reduceLT]; rfl, by simp (maxDischargeDepth := 30) only [amL, args0, Nat.reduceEqDiff, reduceCtorEq, ↓reduceIte, Nat.reduceAdd, resultsA, results1, Int.reduceNeg, splice, Nat.reduceLeDiff, part, fillA, fillE, Nat.reduceLT]; rfl, hg0.app, hbtM, getElem?_grow hRM, hu'.app⟩
  · have l1 := fun k => load_set0 (M := (m ++ [Blk.cells true [[v]]] ++ [Blk.cells true [[V.nils]]] ++ g)) (b := List.length (m ++ [Blk.cells true [[v]]])) (own := true) (el := [V.nils]) (k := k) (j := 0) (by simp)
    have c : ¬ (2 : Int) = 0 := by omega
    simp (maxDischargeDepth := 30) only [aft_mk, hval, hcell, delL, c, l1, amL, args0, Nat.reduceEqDiff, reduceCtorEq, ↓reduceIte, Nat.reduceAdd, resultsA, results1, Int.reduceNeg, splice, Nat.reduceLeDiff, part, fillA, fillE, Nat.reduceLT]
    exact ⟨.nils, rfl, (Grow.refl _).app.app.app, Fresh.mk (.inl ⟨rfl, rfl⟩)⟩
end Go.AM.G
