/- Part of the proof: contracts of functions of the given program on an abstract machine. -/
import Derived.Test.YtdfbfcohindpnaaEphemF
set_option linter.unusedVariables false
set_option linter.unusedSimpArgs false
set_option maxRecDepth 100000
namespace Go.AM.G
open Go Go.AM
def needL (l : List Slot) (key : Int) : Bool := !(findL l key).2 && (decide (l.length = 0) || ((l[(findL l key).1]?).any (fun s => decide (s.st = 0)) && decide (4 * ((cnt 0 l : Int) - 1) < l.length)))
def putL (l : List Slot) (key val : Int) : List Slot × Int :=
  if validB l = true then
    if key = 0 then (l, 7) else
    if needL l key = true then (if sizeL (cnt 1 l) ≤ 64 then (layL (anewL l) key val, 0) else (l, 6)) else (layL l key val, 0)
  else ([], 2)
theorem cnt_add {l : List Slot} : cnt 0 l + cnt 1 l ≤ l.length := by
  induction l with
  | nil => simp [cnt]
  | cons a l ih =>
    simp only [cnt, List.countP_cons, List.length_cons, decide_eq_true_eq] at ih ⊢
    split <;> split <;> omega
theorem anewL_spec {l : List Slot} (h : sizeL (cnt 1 l) ≤ 64) : (anewL l).length = sizeL (cnt 1 l) ∧ Pow (anewL l).length ∧ 0 < cnt 0 (anewL l) := by
  have hsc := sizeL_cases (cnt 1 l)
  have key : ∀ (k : List Slot) (t : List Slot), (k.foldl (fun t s => if s.st = 1 then layL t s.key s.val else t) t).length = t.length ∧ cnt 0 t ≤ cnt 0 (k.foldl (fun t s => if s.st = 1 then layL t s.key s.val else t) t) + cnt 1 k := by
    intro k
    induction k with
    | nil => intro t; simp [cnt]
    | cons a k ih =>
      intro t
      simp only [List.foldl_cons]
      obtain ⟨h1, h2⟩ := ih (if a.st = 1 then layL t a.key a.val else t)
      rw [h1]
      have e : cnt 1 (a :: k) = cnt 1 k + (if a.st = 1 then 1 else 0) := by simp [cnt, List.countP_cons]
      rw [e]
      split
      · rename_i hs
        rw [if_pos hs] at h2
        have := cnt_set (l := t) (i := (findL t a.key).1) (s := ⟨1, a.key, a.val⟩) (st := 0)
        refine ⟨layL_length, ?_⟩
        unfold layL at h2 ⊢
        omega
      · rename_i hs
        rw [if_neg hs] at h2
        exact ⟨rfl, by omega⟩
  obtain ⟨h1, h2⟩ := key l (List.replicate (sizeL (cnt 1 l)) zeroS)
  have h3 : cnt 0 (List.replicate (sizeL (cnt 1 l)) zeroS) = sizeL (cnt 1 l) := by simp [cnt, zeroS, List.countP_replicate]
  rw [List.length_replicate] at h1
  rw [h3] at h2
  refine ⟨h1, ?_, ?_⟩
  · have : (anewL l).length = sizeL (cnt 1 l) := h1
    rw [this]
    unfold Pow
    omega
  · show 0 < cnt 0 (anewL l)
    unfold anewL
    omega
/-- the end of Put: the key is laid, the table told. -/
theorem put_tail {fr : Frame} {m M : Mem} {bt R b cap : Nat} {ex : Bool} {t : List Slot} {key val : Int} (f9 : fr 9 = .ptr bt 0 0) (f6 : fr 6 = .ptr R 0 0) (hbt : M[bt]? = some (.cells true [[.slice b 0 t.length cap ex 3]])) (hb : M[b]? = some (.cells true (encs t))) (hR : M[R]? = some (.cells true [[.nils]])) (hmR : m.length ≤ R) (hRb : R < b) (hg : Grow m M) (hpow : Pow t.length) (hf : 0 < cnt 0 t) (hbb : b ≠ bt) :
    C S n_ephem_table_lay [.ptr bt 0 0, .int .u64 key, .int .u64 val] M (aft S 0 [] fr (some 79) (nrm (andThen S (.seq (.region [⟨(some 80), none, (.mv (.t 9)), none, []⟩, ⟨(some 81), none, (.nilck (.t 80)), none, []⟩, ⟨(some 82), none, (.fieldAddr 0 (.t 81)), none, []⟩, ⟨(some 83), none, (.load (some 1) (.t 82)), none, []⟩, ⟨none, none, (.store 1 (.t 6) (.t 83)), none, []⟩, ⟨(some 7), none, (.mv (.c (.int .i64 0))), none, []⟩]) .ret) (bodyQ [.cell 6 (some 1), .t 7] (fun r m' => ∃ v', r = .tup [.agg [v'], .int .i64 0] ∧ Grow m m' ∧ Fresh m.length m' v' 3 (encs (layL t key val))))))) := by
  have hlt := (List.getElem?_eq_some_iff.1 hb).1
  refine (lay_spec key val (load_at0 hbt) rfl hb hpow hf).mono ?_
  rintro _ _ ⟨g, rfl⟩
  have e1 : (M.set b (Blk.cells true (encs (layL t key val))) ++ g)[bt]? = some (.cells true [[.slice b 0 t.length cap ex 3]]) := getElem?_grow (by rw [List.getElem?_set_ne hbb]; exact hbt)
  have e2 : (M.set b (Blk.cells true (encs (layL t key val))) ++ g)[R]? = some (.cells true [[.nils]]) := getElem?_grow (by rw [List.getElem?_set_ne (by omega)]; exact hR)
  have e3 : (M.set b (Blk.cells true (encs (layL t key val))) ++ g)[b]? = some (.cells true (encs (layL t key val))) := getElem?_grow (List.getElem?_set_self hlt)
  have hg1 : Grow m (M.set b (Blk.cells true (encs (layL t key val))) ++ g) := (hg.set (by omega) _).app
  generalize M.set b (Blk.cells true (encs (layL t key val))) ++ g = M1 at e1 e2 e3 hg1
  have l1 := fun k => load_at0 (k := k) (j := 0) e1
  have s1 := store_at0 (x := .agg [.slice b 0 t.length cap ex 3]) (j := 0) (n := 1) e2 rfl (by simp) rfl
  have hRl := (List.getElem?_eq_some_iff.1 e2).1
  have l2 := fun k => load_set0 (M := M1) (b := R) (own := true) (el := [.slice b 0 t.length cap ex 3]) (k := k) (j := 0) hRl
  simp only [cells_agg, splice, List.take_zero, List.nil_append, List.cons_append, List.length_cons, List.length_nil, Nat.zero_add, List.drop_succ_cons, List.drop_nil] at s1
  simp (maxDischargeDepth := 30) only [aft_mk, f9, f6, l1, s1, l2, amL, args0, Nat.reduceEqDiff, reduceCtorEq, ↓reduceIte, Nat.reduceAdd, resultsA, results1, Int.reduceNeg, splice, Nat.reduceLeDiff, part, fillA, fillE, Nat.reduceLT]
  refine ⟨_, rfl, hg1.set hmR _, Fresh.mk (.inr ⟨b, cap, ex, by omega, ?_, ?_⟩)⟩
  · simp [layL_length]
  · rw [List.getElem?_set_ne (by omega)]
    exact e3
theorem Put_spec {m : Mem} {v : V} {l : List Slot} (key val : Int) (hv : Sl m v 3 (encs l)) (hl : l.length < 5864062014806) : C S n_ephem_Put [.agg [v], .int .u64 key, .int .u64 val] m (fun r m' => ∃ v', r = .tup [.agg [v'], .int .i64 (putL l key val).2] ∧ Grow m m' ∧ Fresh m.length m' v' 3 (encs (putL l key val).1)) := by
  refine C_body rfl rfl rfl ?_
  unfold ephem_Put
  have hcell := hv.cell
  simp (maxDischargeDepth := 30) only [hcell, amL, args0, Nat.reduceEqDiff, reduceCtorEq, ↓reduceIte, Nat.reduceAdd, resultsA, results1, Int.reduceNeg, splice, Nat.reduceLeDiff, part, fillA, fillE, Nat.reduceLT]
  refine (Check_spec hv.app.app (by omega)).mono ?_
  rintro _ _ ⟨rfl, g, rfl⟩
  by_cases hval : validB l = true
  · have hvc := valid_cases hval
    simp (maxDischargeDepth := 30) only [aft_mk, hval, hcell, amL, args0, Nat.reduceEqDiff, reduceCtorEq, ↓reduceIte, Nat.reduceAdd, resultsA, results1, Int.reduceNeg, splice, Nat.reduceLeDiff, part, fillA, fillE, Nat.reduceLT]
    refine (Own_spec hv.app.app.app hl).mono ?_
    rintro _ _ ⟨u, rfl, ⟨g2, rfl⟩, hu⟩
    have huc := hu.1.cell
    simp (maxDischargeDepth := 30) only [aft_mk, huc, amL, args0, Nat.reduceEqDiff, reduceCtorEq, ↓reduceIte, Nat.reduceAdd, resultsA, results1, Int.reduceNeg, splice, Nat.reduceLeDiff, part, fillA, fillE, Nat.reduceLT]
    generalize hM : m ++ [Blk.cells true [[v]]] ++ [Blk.cells true [[V.nils]]] ++ g ++ g2 = M at hu
    generalize hR : List.length (m ++ [Blk.cells true [[v]]]) = R
    have hgM : Grow (m ++ [Blk.cells true [[v]]] ++ [Blk.cells true [[V.nils]]]) M := by rw [← hM]; exact (Grow.refl _).app.app
    have hg0 : Grow m M := by rw [← hM]; exact (Grow.refl _).app.app.app.app
    have hRM : M[R]? = some (.cells true [[.nils]]) := hgM.get (by rw [← hR]; simp)
    have hmR : m.length ≤ R := by rw [← hR]; simp
    have hRl := (List.getElem?_eq_some_iff.1 hRM).1
    have hBu : R + 1 ≤ (m ++ [Blk.cells true [[v]]] ++ [Blk.cells true [[V.nils]]] ++ g).length := by rw [← hR]; simp; omega
    have hu' := hu.weaken hBu
    clear hM hgM hu hBu
    have hlen : (encs l).length = l.length := by simp
    by_cases hk : key = 0
    · have l1 := fun k => load_at0 (M := M ++ [Blk.cells true [[u]]]) (b := M.length) (own := true) (el := [u]) (k := k) (j := 0) (by simp)
      have e2 : (M ++ [Blk.cells true [[u]]])[R]? = some (.cells true [[.nils]]) := getElem?_grow hRM
      have s1 := store_at0 (x := .agg [u]) (j := 0) (n := 1) e2 rfl (by simp) (by simp [cells_agg, huc])
      have l2 := fun k => load_set0 (M := M ++ [Blk.cells true [[u]]]) (b := R) (own := true) (el := [u]) (k := k) (j := 0) (by simp; omega)
      simp only [cells_agg, splice, List.take_zero, List.nil_append, List.cons_append, List.length_cons, List.length_nil, Nat.zero_add, List.drop_succ_cons, List.drop_nil] at s1
      simp (maxDischargeDepth := 30) only [hk, s1, l1, l2, putL, hval, amL, args0, Nat.reduceEqDiff, reduceCtorEq, ↓reduceIte, Nat.reduceAdd, resultsA, results1, Int.reduceNeg, splice, Nat.reduceLeDiff, part, fillA, fillE, Nat.reduceLT]
      refine ⟨u, rfl, hg0.app.set hmR _, ?_⟩
      refine ((hu'.app (g := [Blk.cells true [[u]]])).to (fun b x hb hx => ?_)).weaken (show m.length ≤ R + 1 by omega)
      rw [List.getElem?_set_ne (by omega)]
      exact hx
    have hne : ¬ key = 0 := hk
    simp (maxDischargeDepth := 30) only [hk, hu'.1.len, hlen, amL, args0, Nat.reduceEqDiff, reduceCtorEq, ↓reduceIte, Nat.reduceAdd, resultsA, results1, Int.reduceNeg, splice, Nat.reduceLeDiff, part, fillA, fillE, Nat.reduceLT]
    refine (find_spec (v := u) (l := l) key (by simp (maxDischargeDepth := 30) only [amL, args0, Nat.reduceEqDiff, reduceCtorEq, ↓reduceIte, Nat.reduceAdd, resultsA, results1, Int.reduceNeg, splice, Nat.reduceLeDiff, part, fillA, fillE, Nat.reduceLT]) rfl hu'.1.app hvc).mono ?_
    rintro _ _ ⟨rfl, g3, rfl⟩
    have hu3 : Fresh (R + 1) (M ++ [Blk.cells true [[u]]] ++ g3) u 3 (encs l) := hu'.app.app
    have hbt3 : (M ++ [Blk.cells true [[u]]] ++ g3)[M.length]? = some (.cells true [[u]]) := getElem?_grow (by simp)
    have hR3 : (M ++ [Blk.cells true [[u]]] ++ g3)[R]? = some (.cells true [[.nils]]) := getElem?_grow (getElem?_grow hRM)
    have hg3 : Grow m (M ++ [Blk.cells true [[u]]] ++ g3) := hg0.app.app
    generalize M ++ [Blk.cells true [[u]]] ++ g3 = M3 at hu3 hbt3 hR3 hg3
    generalize hbt : M.length = bt at hbt3
    have hRbt : R < bt := by omega
    -- a table that is not empty, laid in place
    have inplace : ∀ (fr : Frame) (M4 : Mem), Grow M3 M4 → l.length ≠ 0 → fr 9 = .ptr bt 0 0 → fr 6 = .ptr R 0 0 → putL l key val = (layL l key val, 0) → C S n_ephem_table_lay [.ptr bt 0 0, .int .u64 key, .int .u64 val] M4 (aft S 0 [] fr (some 79) (nrm (andThen S (.seq (.region [⟨(some 80), none, (.mv (.t 9)), none, []⟩, ⟨(some 81), none, (.nilck (.t 80)), none, []⟩, ⟨(some 82), none, (.fieldAddr 0 (.t 81)), none, []⟩, ⟨(some 83), none, (.load (some 1) (.t 82)), none, []⟩, ⟨none, none, (.store 1 (.t 6) (.t 83)), none, []⟩, ⟨(some 7), none, (.mv (.c (.int .i64 0))), none, []⟩]) .ret) (bodyQ [.cell 6 (some 1), .t 7] (fun r m' => ∃ v', r = .tup [.agg [v'], .int .i64 (putL l key val).2] ∧ Grow m m' ∧ Fresh m.length m' v' 3 (encs (putL l key val).1)))))) := by
      intro fr M4 hg4 hn0 f9 f6 hput
      rw [hput]
      obtain ⟨hpow, hfree⟩ := hvc.resolve_left hn0
      rcases hu3.cases with ⟨_, h0⟩ | ⟨b, cap, ex, hb1, rfl, hb3⟩
      · rw [← hlen, h0] at hn0; exact absurd rfl hn0
      · refine put_tail (b := b) (cap := cap) (ex := ex) (t := l) f9 f6 (by rw [← hlen]; exact hg4.get hbt3) (hg4.get hb3) (hg4.get hR3) hmR (by omega) (hg3.trans hg4) hpow hfree ?_
        rintro rfl
        rw [hbt3] at hb3
        have := congrArg (fun x : Option Blk => match x with | some (.cells _ els) => els | _ => []) hb3
        simp only at this
        have h3 : ∀ el ∈ [[V.slice b 0 (encs l).length cap ex 3]], el.length = 3 := by rw [this]; exact encs_z
        have := h3 _ (List.mem_singleton.2 rfl)
        simp at this
    -- a new table
    have anew : ∀ (fr : Frame) (M4 : Mem), Grow M3 M4 → fr 1 = .int .u64 key → fr 2 = .int .u64 val → fr 67 = .bool true → fr 9 = .ptr bt 0 0 → fr 6 = .ptr R 0 0 → needL l key = true → C S n_ephem_table_anew [.ptr bt 0 0] M4 (aft S 0 [⟨(some 70), (some (67, true)), (.un .not (.t 69)), none, []⟩, ⟨(some 71), none, (.pick (.t 67) (.t 70) (.c (.bool false))), none, []⟩] fr (some 69) (nrm (andThen S (.cond (.t 71) (.seq (.region [⟨(some 72), none, (.mv (.t 9)), none, []⟩, ⟨(some 73), none, (.nilck (.t 72)), none, []⟩, ⟨(some 74), none, (.fieldAddr 0 (.t 73)), none, []⟩, ⟨(some 75), none, (.load (some 1) (.t 74)), none, []⟩, ⟨none, none, (.store 1 (.t 6) (.t 75)), none, []⟩, ⟨(some 7), none, (.mv (.c (.int .i64 6))), none, []⟩]) .ret) .skip) (andThen S (.seq (.region [⟨(some 76), none, (.mv (.t 9)), none, []⟩, ⟨(some 77), none, (.mv (.t 1)), none, []⟩, ⟨(some 78), none, (.mv (.t 2)), none, []⟩, ⟨(some 79), none, (.call (.c (.fn n_ephem_table_lay [] [])) [(.t 76), (.t 77), (.t 78)]), none, []⟩]) (.seq (.region [⟨(some 80), none, (.mv (.t 9)), none, []⟩, ⟨(some 81), none, (.nilck (.t 80)), none, []⟩, ⟨(some 82), none, (.fieldAddr 0 (.t 81)), none, []⟩, ⟨(some 83), none, (.load (some 1) (.t 82)), none, []⟩, ⟨none, none, (.store 1 (.t 6) (.t 83)), none, []⟩, ⟨(some 7), none, (.mv (.c (.int .i64 0))), none, []⟩]) .ret)) (bodyQ [.cell 6 (some 1), .t 7] (fun r m' => ∃ v', r = .tup [.agg [v'], .int .i64 (putL l key val).2] ∧ Grow m m' ∧ Fresh m.length m' v' 3 (encs (putL l key val).1))))))) := by
      intro fr M4 hg4 f1 f2 f67 f9 f6 hnd
      have hn64 : l.length ≤ 64 := by
        rcases hvc with h | ⟨h, _⟩
        · omega
        · have := h.le; omega
      have hca := cnt_add (l := l)
      have hu63 : cnt 1 l ≤ 63 := by rcases hvc with h | ⟨_, h⟩ <;> omega
      have hbt4 := hg4.get hbt3
      have hR4 := hg4.get hR3
      refine (anew_spec hbt4 (hu3.1.grow hg4) hn64 hu63).mono ?_
      rintro _ M5 ⟨rfl, h5⟩
      by_cases hsz : sizeL (cnt 1 l) ≤ 64
      · rw [if_pos hsz] at h5
        obtain ⟨b, cap, ex, hb4, hg5, hb5⟩ := h5
        obtain ⟨_, hpw, hfr⟩ := anewL_spec hsz
        have hput : putL l key val = (layL (anewL l) key val, 0) := by simp [putL, hval, hne, hnd, hsz]
        have hbtl := (List.getElem?_eq_some_iff.1 hbt4).1
        have hRl4 := (List.getElem?_eq_some_iff.1 hR4).1
        simp (maxDischargeDepth := 30) only [aft_mk, f1, f2, f67, f9, f6, hsz, amL, args0, Nat.reduceEqDiff, reduceCtorEq, ↓reduceIte, Nat.reduceAdd, resultsA, results1, Int.reduceNeg, splice, Nat.reduceLeDiff, part, fillA, fillE, Nat.reduceLT]
        rw [hput]
        refine put_tail (b := b) (cap := cap) (ex := ex) (t := anewL l) (by simp (maxDischargeDepth := 30) only [f9, amL, args0, Nat.reduceEqDiff, reduceCtorEq, ↓reduceIte, Nat.reduceAdd, resultsA, results1, Int.reduceNeg, splice, Nat.reduceLeDiff, part, fillA, fillE, Nat.reduceLT]) (by simp (maxDischargeDepth := 30) only [f6, amL, args0, Nat.reduceEqDiff, reduceCtorEq, ↓reduceIte, Nat.reduceAdd, resultsA, results1, Int.reduceNeg, splice, Nat.reduceLeDiff, part, fillA, fillE, Nat.reduceLT]) (hg5.get (List.getElem?_set_self hbtl)) hb5 (hg5.get (by rw [List.getElem?_set_ne (by omega)]; exact hR4)) hmR (by omega) ?_ hpw hfr (by omega)
        refine Grow.trans ?_ hg5
        exact (hg3.trans hg4).set (by omega) _
      · rw [if_neg hsz] at h5
        have hput : putL l key val = (l, 6) := by simp [putL, hval, hne, hnd, hsz]
        have hbt5 := h5.get hbt4
        have hR5 := h5.get hR4
        have hu5 := (hu3.grow hg4).grow h5
        have hRl5 := (List.getElem?_eq_some_iff.1 hR5).1
        have l1 := fun k => load_at0 (k := k) (j := 0) hbt5
        have s1 := store_at0 (x := .agg [u]) (j := 0) (n := 1) hR5 rfl (by simp) (by simp [cells_agg, huc])
        have l2 := fun k => load_set0 (M := M5) (b := R) (own := true) (el := [u]) (k := k) (j := 0) hRl5
        simp only [cells_agg, splice, List.take_zero, List.nil_append, List.cons_append, List.length_cons, List.length_nil, Nat.zero_add, List.drop_succ_cons, List.drop_nil] at s1
        simp (maxDischargeDepth := 30) only [aft_mk, f67, f9, f6, hsz, l1, s1, l2, amL, args0, Nat.reduceEqDiff, reduceCtorEq, ↓reduceIte, Nat.reduceAdd, resultsA, results1, Int.reduceNeg, splice, Nat.reduceLeDiff, part, fillA, fillE, Nat.reduceLT]
        rw [hput]
        refine ⟨u, rfl, ((hg3.trans hg4).trans h5).set hmR _, ?_⟩
        refine (hu5.to (fun b x hb hx => ?_)).weaken (show m.length ≤ R + 1 by omega)
        rw [List.getElem?_set_ne (by omega)]
        exact hx
    by_cases hf : (findL l key).2 = true
    · have hn0 : l.length ≠ 0 := by intro h; simp [findL, h] at hf
      have hput : putL l key val = (layL l key val, 0) := by simp [putL, hval, hne, needL, hf]
      simp (maxDischargeDepth := 30) only [aft_mk, hf, amL, args0, Nat.reduceEqDiff, reduceCtorEq, ↓reduceIte, Nat.reduceAdd, resultsA, results1, Int.reduceNeg, splice, Nat.reduceLeDiff, part, fillA, fillE, Nat.reduceLT]
      exact inplace _ M3 (Grow.refl _) hn0 (by simp (maxDischargeDepth := 30) only [amL, args0, Nat.reduceEqDiff, reduceCtorEq, ↓reduceIte, Nat.reduceAdd, resultsA, results1, Int.reduceNeg, splice, Nat.reduceLeDiff, part, fillA, fillE, Nat.reduceLT]) (by simp (maxDischargeDepth := 30) only [amL, args0, Nat.reduceEqDiff, reduceCtorEq, ↓reduceIte, Nat.reduceAdd, resultsA, results1, Int.reduceNeg, splice, Nat.reduceLeDiff, part, fillA, fillE, Nat.reduceLT]) hput
    by_cases hn0 : l.length = 0
    · have hn0' : (l.length : Int) = 0 := by omega
      simp (maxDischargeDepth := 30) only [aft_mk, hf, hn0', amL, args0, Nat.reduceEqDiff, reduceCtorEq, ↓reduceIte, Nat.reduceAdd, resultsA, results1, Int.reduceNeg, splice, Nat.reduceLeDiff, part, fillA, fillE, Nat.reduceLT]
      exact anew _ M3 (Grow.refl _) (by simp (maxDischargeDepth := 30) only [amL, args0, Nat.reduceEqDiff, reduceCtorEq, ↓reduceIte, Nat.reduceAdd, resultsA, results1, Int.reduceNeg, splice, Nat.reduceLeDiff, part, fillA, fillE, Nat.reduceLT]) (by simp (maxDischargeDepth := 30) only [amL, args0, Nat.reduceEqDiff, reduceCtorEq, ↓reduceIte, Nat.reduceAdd, resultsA, results1, Int.reduceNeg, splice, Nat.reduceLeDiff, part, fillA, fillE, Nat.reduceLT]) (by simp (maxDischargeDepth := 30) only [amL, args0, Nat.reduceEqDiff, reduceCtorEq, ↓reduceIte, Nat.reduceAdd, resultsA, results1, Int.reduceNeg, splice, Nat.reduceLeDiff, part, fillA, fillE, Nat.reduceLT]) (by simp (maxDischargeDepth := 30) only [amL, args0, Nat.reduceEqDiff, reduceCtorEq, ↓reduceIte, Nat.reduceAdd, resultsA, results1, Int.reduceNeg, splice, Nat.reduceLeDiff, part, fillA, fillE, Nat.reduceLT]) (by simp (maxDischargeDepth := 30) only [amL, args0, Nat.reduceEqDiff, reduceCtorEq, ↓reduceIte, Nat.reduceAdd, resultsA, results1, Int.reduceNeg, splice, Nat.reduceLeDiff, part, fillA, fillE, Nat.reduceLT]) (by simp [needL, hf, hn0])
    have hn0' : ¬ (l.length : Int) = 0 := by omega
    obtain ⟨hpow, hfree⟩ := hvc.resolve_left hn0
    obtain ⟨hi, _⟩ := findL_spec (key := key) hpow
    obtain ⟨s, hs⟩ : ∃ s, l[(findL l key).1]? = some s := ⟨_, List.getElem?_eq_getElem hi⟩
    have ix := hu3.1.index (ki := .i64) (n := (findL l key).1) (by omega) (by omega)
    have ld := fun o k => hu3.1.load (o := o) (k := k) (encs_get hs)
    simp only [Int.toNat_natCast, enc] at ix ld
    have l1 := fun k => load_at0 (k := k) (j := 0) hbt3
    by_cases hst : s.st = 0
    · simp (maxDischargeDepth := 30) only [aft_mk, hf, hn0', l1, ix, ld, hst, amL, args0, Nat.reduceEqDiff, reduceCtorEq, ↓reduceIte, Nat.reduceAdd, resultsA, results1, Int.reduceNeg, splice, Nat.reduceLeDiff, part, fillA, fillE, Nat.reduceLT]
      refine (many_spec (v := u) (l := l) 0 (by rw [load_at0 hbt3]; rfl) rfl hu3.1 (by omega)).mono ?_
      rintro _ _ ⟨rfl, g4, rfl⟩
      have hcl := cnt_le 0 l
      have hpl := hpow.le
      have w1 : IntKind.i64.wrap ((cnt 0 l : Int) - 1) = (cnt 0 l : Int) - 1 := by rw [wrap_i64] <;> omega
      have w2 : IntKind.i64.wrap (4 * ((cnt 0 l : Int) - 1)) = 4 * ((cnt 0 l : Int) - 1) := by rw [wrap_i64] <;> omega
      by_cases hfew : 4 * ((cnt 0 l : Int) - 1) < l.length
      · simp (maxDischargeDepth := 30) only [aft_mk, hf, hn0', hst, w1, w2, hfew, amL, args0, Nat.reduceEqDiff, reduceCtorEq, ↓reduceIte, Nat.reduceAdd, resultsA, results1, Int.reduceNeg, splice, Nat.reduceLeDiff, part, fillA, fillE, Nat.reduceLT]
        exact anew _ _ (Grow.refl _).app (by simp (maxDischargeDepth := 30) only [amL, args0, Nat.reduceEqDiff, reduceCtorEq, ↓reduceIte, Nat.reduceAdd, resultsA, results1, Int.reduceNeg, splice, Nat.reduceLeDiff, part, fillA, fillE, Nat.reduceLT]) (by simp (maxDischargeDepth := 30) only [amL, args0, Nat.reduceEqDiff, reduceCtorEq, ↓reduceIte, Nat.reduceAdd, resultsA, results1, Int.reduceNeg, splice, Nat.reduceLeDiff, part, fillA, fillE, Nat.reduceLT]) (by simp (maxDischargeDepth := 30) only [amL, args0, Nat.reduceEqDiff, reduceCtorEq, ↓reduceIte, Nat.reduceAdd, resultsA, results1, Int.reduceNeg, splice, Nat.reduceLeDiff, part, fillA, fillE, Nat.reduceLT]) (by simp (maxDischargeDepth := 30) only [amL, args0, Nat.reduceEqDiff, reduceCtorEq, ↓reduceIte, Nat.reduceAdd, resultsA, results1, Int.reduceNeg, splice, Nat.reduceLeDiff, part, fillA, fillE, Nat.reduceLT]) (by simp (maxDischargeDepth := 30) only [amL, args0, Nat.reduceEqDiff, reduceCtorEq, ↓reduceIte, Nat.reduceAdd, resultsA, results1, Int.reduceNeg, splice, Nat.reduceLeDiff, part, fillA, fillE, Nat.reduceLT]) (by simp [needL, hf, hs, hst, hfew])
      · simp (maxDischargeDepth := 30) only [aft_mk, hf, hn0', hst, w1, w2, hfew, amL, args0, Nat.reduceEqDiff, reduceCtorEq, ↓reduceIte, Nat.reduceAdd, resultsA, results1, Int.reduceNeg, splice, Nat.reduceLeDiff, part, fillA, fillE, Nat.reduceLT]
        exact inplace _ _ (Grow.refl _).app hn0 (by simp (maxDischargeDepth := 30) only [amL, args0, Nat.reduceEqDiff, reduceCtorEq, ↓reduceIte, Nat.reduceAdd, resultsA, results1, Int.reduceNeg, splice, Nat.reduceLeDiff, part, fillA, fillE, Nat.reduceLT]) (by simp (maxDischargeDepth := 30) only [amL, args0, Nat.reduceEqDiff, reduceCtorEq, ↓reduceIte, Nat.reduceAdd, resultsA, results1, Int.reduceNeg, splice, Nat.reduceLeDiff, part, fillA, fillE, Nat.reduceLT]) (by simp [putL, hval, hne, needL, hf, hn0, hs, hst, hfew])
    · simp (maxDischargeDepth := 30) only [aft_mk, hf, hn0', l1, ix, ld, hst, amL, args0, Nat.reduceEqDiff, reduceCtorEq, ↓reduceIte, Nat.reduceAdd, resultsA, results1, Int.reduceNeg, splice, Nat.reduceLeDiff, part, fillA, fillE, Nat.reduceLT]
      exact inplace _ M3 (Grow.refl _) hn0 (by simp (maxDischargeDepth := 30) only [amL, args0, Nat.reduceEqDiff, reduceCtorEq, ↓reduceIte, Nat.reduceAdd, resultsA, results1, Int.reduceNeg, splice, Nat.reduceLeDiff, part, fillA, fillE, Nat.reduceLT]) (by simp (maxDischargeDepth := 30) only [amL, args0, Nat.reduceEqDiff, reduceCtorEq, ↓reduceIte, Nat.reduceAdd, resultsA, results1, Int.reduceNeg, splice, Nat.reduceLeDiff, part, fillA, fillE, Nat.reduceLT]) (by simp [putL, hval, hne, needL, hf, hn0, hs, hst])
  · have l1 := fun k => load_set0 (M := (m ++ [Blk.cells true [[v]]] ++ [Blk.cells true [[V.nils]]] ++ g)) (b := List.length (m ++ [Blk.cells true [[v]]])) (own := true) (el := [V.nils]) (k := k) (j := 0) (by simp)
    have c : ¬ (2 : Int) = 0 := by omega
    simp (maxDischargeDepth := 30) only [aft_mk, hval, hcell, putL, c, l1, amL, args0, Nat.reduceEqDiff, reduceCtorEq, ↓reduceIte, Nat.reduceAdd, resultsA, results1, Int.reduceNeg, splice, Nat.reduceLeDiff, part, fillA, fillE, Nat.reduceLT]
    exact ⟨.nils, rfl, (Grow.refl _).app.app.app, Fresh.mk (.inl ⟨rfl, rfl⟩)⟩
end Go.AM.G
