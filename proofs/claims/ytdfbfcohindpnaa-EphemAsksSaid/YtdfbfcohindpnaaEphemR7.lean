/- Part of the proof: contracts of functions of the given program on an abstract machine. -/
import Derived.Test.YtdfbfcohindpnaaEphemR4
set_option linter.unusedVariables false
set_option linter.unusedSimpArgs false
set_option maxRecDepth 100000
namespace Go.AM.G
open Go Go.AM
/-- where an append begins: its own row. -/
def Dst (B : Nat) (M : Mem) (x : V) (els : List (List V)) : Prop := ∃ b ex, B ≤ b ∧ x = .slice b 0 els.length els.length ex 1 ∧ M[b]? = some (.cells true els)
theorem Dst.sl {B : Nat} {M : Mem} {u : V} {els : List (List V)} (h : Dst B M u els) : Sl M u 1 els := by
  obtain ⟨b, ex, _, rfl, h⟩ := h
  exact Sl.mk h
/-- an append to one's own row: what was below it stays. -/
theorem app_row {B : Nat} {M : Mem} {x y z : V} {bytes : Nat} {els ys : List (List V)} (h : Dst B M x els) (hy : Sl M y 1 ys) (hr : roomy (els.length + ys.length) bytes = true) (hB : B ≤ M.length) :
    ∃ x' M', appendV M [z] bytes x y = some (x', M') ∧ Dst B M' x' (els ++ ys) ∧ (∀ c w, blkOf x ≠ some c → M[c]? = some w → M'[c]? = some w) ∧ (blkOf x' = blkOf x ∨ blkOf x' = some M.length) ∧ M.length ≤ M'.length := by
  obtain ⟨b, ex, h1, rfl, h3⟩ := h
  have he := hy.1
  have hz : zOk y 1 = true := hy.2
  have hbl := (List.getElem?_eq_some_iff.1 h3).1
  by_cases hys : ys = []
  · subst hys
    refine ⟨_, M, ?_, ⟨b, ex, h1, by rw [List.append_nil], by rw [List.append_nil]; exact h3⟩, fun _ _ _ h => h, .inl rfl, Nat.le_refl _⟩
    simp [appendV, he, hz]
  · have hyl : 0 < ys.length := by cases ys <;> simp_all
    have c1 : ¬ els.length + ys.length ≤ els.length := by omega
    cases ex with
    | true =>
      refine ⟨.slice M.length 0 (els.length + ys.length) (els.length + ys.length) false 1, M ++ [.cells true (els ++ ys)], ?_, ⟨M.length, false, hB, by simp, by simp⟩, fun c w _ hw => getElem?_grow hw, .inr rfl, by simp⟩
      simp [appendV, he, hz, hys, h3, hr, hyl]
    | false =>
      refine ⟨.slice M.length 0 (els.length + ys.length) (els.length + ys.length) false 1, M.set b .dead ++ [.cells true (els ++ ys)], ?_, ⟨M.length, false, hB, by simp, ?_⟩, fun c w hc hw => ?_, .inr rfl, by simp⟩
      · simp [appendV, he, hz, hys, h3, hr, hyl]
      · rw [List.getElem?_append_right (by simp)]; simp
      · refine getElem?_grow ?_
        rw [List.getElem?_set_ne (fun e => hc (by rw [e]; rfl))]
        exact hw
theorem slice_lo {M : Mem} {u : V} {els : List (List V)} {at_ : Nat} (h : Sl M u 1 els) (hc : capOk u = true) (hat : at_ ≤ els.length) : ∃ y, sliceV u none (some (.int .i64 at_)) none = some y ∧ Sl M y 1 (els.take at_) := by
  rcases h.cases with ⟨rfl, rfl⟩ | ⟨b, i, len, cap, ex, rfl⟩
  · have : at_ = 0 := by simpa using hat
    subst this
    exact ⟨.nils, by simp [sliceV, bound], ⟨rfl, rfl⟩⟩
  · have h1 := h.1
    simp only [elems] at h1
    split at h1
    case h_2 => cases h1
    rename_i own els0 hb
    split at h1
    case isFalse => cases h1
    rename_i hl
    simp only [Option.some.injEq] at h1
    have hlen : els.length = len := by rw [← h1]; simp; omega
    have hcap : len ≤ cap := by simpa [capOk] using hc
    have e1 : at_ ≤ cap := by omega
    refine ⟨.slice b i at_ cap ex 1, by simp [sliceV, bound, e1], ?_, by simp [zOk]⟩
    simp only [elems, hb]
    rw [if_pos (by omega), ← h1, List.take_take, Nat.min_eq_left (by omega)]
theorem slice_hi {M : Mem} {u : V} {els : List (List V)} {at_ : Nat} (h : Sl M u 1 els) (hat : at_ ≤ els.length) : ∃ y, sliceV u (some (.int .i64 at_)) none none = some y ∧ Sl M y 1 (els.drop at_) := by
  rcases h.cases with ⟨rfl, rfl⟩ | ⟨b, i, len, cap, ex, rfl⟩
  · have : at_ = 0 := by simpa using hat
    subst this
    exact ⟨.nils, by simp [sliceV, bound], ⟨rfl, rfl⟩⟩
  · have h1 := h.1
    simp only [elems] at h1
    split at h1
    case h_2 => cases h1
    rename_i own els0 hb
    split at h1
    case isFalse => cases h1
    rename_i hl
    simp only [Option.some.injEq] at h1
    have hlen : els.length = len := by rw [← h1]; simp; omega
    have e1 : at_ ≤ len := by omega
    refine ⟨.slice b (i + at_) (len - at_) (cap - at_) ex 1, by simp [sliceV, bound, e1], ?_, by simp [zOk]⟩
    simp only [elems, hb]
    rw [if_pos (by omega), ← h1, List.drop_take, List.drop_drop]
theorem Dst.cap {B : Nat} {M : Mem} {u : V} {els : List (List V)} (h : Dst B M u els) : capOk u = true := by
  obtain ⟨b, ex, _, rfl, _⟩ := h
  simp [capOk]
theorem Dst.blk {B : Nat} {M : Mem} {u : V} {els : List (List V)} (h : Dst B M u els) {c : Nat} (hc : c < B) : blkOf u ≠ some c := by
  obtain ⟨b, ex, h1, rfl, _⟩ := h
  intro e
  cases e
  omega
/-- slots in the order of their keys. -/
def insS (t : List Slot) (s : Slot) : List Slot := t.takeWhile (fun x => decide (x.key < s.key)) ++ s :: t.dropWhile (fun x => decide (x.key < s.key))
def sortI (l : List Slot) : List Slot := (used l).foldl insS []
theorem sortI_snoc {l : List Slot} {i : Nat} {s : Slot} (hs : l[i]? = some s) : sortI (l.take (i + 1)) = if s.st = 1 then insS (sortI (l.take i)) s else sortI (l.take i) := by
  unfold sortI
  rw [used_snoc hs]
  split
  · rw [List.foldl_append]; rfl
  · rw [List.append_nil]
theorem insS_perm {t : List Slot} {s : Slot} : (insS t s).Perm (s :: t) := by
  unfold insS
  refine List.perm_middle.trans ?_
  rw [List.takeWhile_append_dropWhile]
theorem fold_perm : ∀ (r t : List Slot), (r.foldl insS t).Perm (r ++ t)
  | [], t => List.Perm.refl _
  | s :: r, t => by
    simp only [List.foldl_cons, List.cons_append]
    refine (fold_perm r _).trans ?_
    refine (List.Perm.append_left r insS_perm).trans ?_
    exact List.perm_middle
theorem sortI_perm {l : List Slot} : (sortI l).Perm (used l) := by
  have := fold_perm (used l) []
  rwa [List.append_nil] at this
theorem insS_sorted {t : List Slot} {s : Slot} (h : t.Pairwise fun a b => a.key < b.key) (hn : ∀ x ∈ t, x.key ≠ s.key) : (insS t s).Pairwise fun a b => a.key < b.key := by
  induction t with
  | nil => simp [insS]
  | cons a t ih =>
    rw [List.pairwise_cons] at h
    have ih := ih h.2 (fun x hx => hn x (by simp [hx]))
    unfold insS at ih ⊢
    by_cases hc : a.key < s.key
    · simp only [List.takeWhile_cons, List.dropWhile_cons, hc, decide_true, if_true, List.cons_append]
      rw [List.pairwise_cons]
      refine ⟨fun x hx => ?_, ih⟩
      have := (insS_perm (t := t) (s := s)).mem_iff.1 hx
      rcases List.mem_cons.1 this with rfl | h1
      · exact hc
      · exact h.1 x h1
    · simp only [List.takeWhile_cons, List.dropWhile_cons, hc, decide_false, Bool.false_eq_true, if_false, List.nil_append]
      have hlt : s.key < a.key := by have := hn a (by simp); omega
      rw [List.pairwise_cons]
      refine ⟨fun x hx => ?_, List.pairwise_cons.2 h⟩
      rcases List.mem_cons.1 hx with rfl | h1
      · exact hlt
      · have := h.1 x h1; omega
theorem sortI_sorted : ∀ (r t : List Slot), (r ++ t).Pairwise (fun a b => a.key ≠ b.key) → t.Pairwise (fun a b => a.key < b.key) → (r.foldl insS t).Pairwise fun a b => a.key < b.key
  | [], t, _, h => h
  | s :: r, t, hp, h => by
    simp only [List.foldl_cons]
    simp only [List.cons_append, List.pairwise_cons] at hp
    refine sortI_sorted r _ ?_ (insS_sorted h fun x hx => (hp.1 x (by simp [hx])).symm)
    refine (List.Perm.append_left r insS_perm).symm.pairwise ?_ (fun hab e => hab e.symm)
    refine List.perm_middle.symm.pairwise ?_ (fun hab e => hab e.symm)
    exact List.pairwise_cons.2 hp
theorem sorted_eq : ∀ (a b : List Slot), a.Pairwise (fun a b => a.key < b.key) → b.Pairwise (fun a b => a.key < b.key) → (∀ x, x ∈ a ↔ x ∈ b) → a = b
  | [], [], _, _, _ => rfl
  | [], y :: b, _, _, h => by have := (h y).2 (by simp); simp at this
  | x :: a, [], _, _, h => by have := (h x).1 (by simp); simp at this
  | x :: a, y :: b, ha, hb, h => by
    rw [List.pairwise_cons] at ha hb
    have hxy : x = y := by
      rcases List.mem_cons.1 ((h x).1 (by simp)) with e | hx
      · exact e
      · rcases List.mem_cons.1 ((h y).2 (by simp)) with e | hy
        · exact e.symm
        · have := ha.1 y hy; have := hb.1 x hx; omega
    subst hxy
    congr 1
    refine sorted_eq a b ha.2 hb.2 fun z => ?_
    constructor
    · intro hz
      rcases List.mem_cons.1 ((h z).1 (by simp [hz])) with e | hz'
      · subst e; have := ha.1 z hz; omega
      · exact hz'
    · intro hz
      rcases List.mem_cons.1 ((h z).2 (by simp [hz])) with e | hz'
      · subst e; have := hb.1 z hz; omega
      · exact hz'
theorem sortI_eq {l : List Slot} (h : validB l = true) : sortI l = srtL (used l) := by
  refine sorted_eq _ _ ?_ ?_ fun x => ?_
  · exact sortI_sorted (used l) [] (by rw [List.append_nil]; exact used_pair h) List.Pairwise.nil
  · rw [List.pairwise_iff_getElem]
    intro i j hi hj hij
    exact srt_rise h hij (List.getElem?_eq_getElem hi) (List.getElem?_eq_getElem hj)
  · rw [sortI_perm.mem_iff, srtL_perm.mem_iff]
theorem takeWhile_len {t : List Slot} {k : Int} : (t.takeWhile fun x => decide (x.key < k)).length ≤ t.length := by
  have := congrArg List.length (List.takeWhile_append_dropWhile (p := fun x : Slot => decide (x.key < k)) (l := t))
  rw [List.length_append] at this
  omega
theorem insS_take {t : List Slot} {s : Slot} (f : Slot → Int) : (insS t s).map f = (t.map f).take (t.takeWhile fun x => decide (x.key < s.key)).length ++ f s :: (t.map f).drop (t.takeWhile fun x => decide (x.key < s.key)).length := by
  unfold insS
  rw [List.map_append, List.map_cons, ← List.map_take, ← List.map_drop]
  have e := List.takeWhile_append_dropWhile (p := fun x : Slot => decide (x.key < s.key)) (l := t)
  generalize t.takeWhile (fun x => decide (x.key < s.key)) = a at e ⊢
  generalize t.dropWhile (fun x => decide (x.key < s.key)) = b at e ⊢
  subst e
  simp
/-- the place of an insertion is where the walk along the keys stops. -/
theorem walk_stop : ∀ (t : List Slot) (k : Int) (n : Nat), n ≤ (t.takeWhile fun x => decide (x.key < k)).length → (∀ x, t[n]? = some x → ((x.key < k) ↔ n < (t.takeWhile fun x => decide (x.key < k)).length)) ∧ (t[n]? = none → n = (t.takeWhile fun x => decide (x.key < k)).length)
  | [], k, n, h => by simp at h; subst h; simp
  | a :: t, k, n, h => by
    by_cases hc : a.key < k
    · simp only [List.takeWhile_cons, hc, decide_true, if_true, List.length_cons] at h ⊢
      cases n with
      | zero => simp; exact hc
      | succ n =>
        have := walk_stop t k n (by omega)
        simpa using this
    · simp only [List.takeWhile_cons, hc, decide_false, Bool.false_eq_true, if_false, List.length_nil] at h ⊢
      have : n = 0 := by omega
      subst this
      simp; omega
end Go.AM.G

set_option maxRecDepth 100000
namespace Go.AM.G
open Go Go.AM
theorem ins_row {M : Mem} {u : V} {els : List (List V)} {at_ : Nat} (k : V) (h : Sl M u 1 els) (hc : capOk u = true) (hat : at_ ≤ els.length) (hl : els.length ≤ 64) :
    ∃ y1 y2 x1 A1 x2 A3 x3 A4, sliceV u none (some (.int .i64 at_)) none = some y1 ∧ sliceV u (some (.int .i64 at_)) none none = some y2 ∧ appendV (M ++ [Blk.cells true [], Blk.dead]) [.int .u64 0] 8 (.slice M.length 0 0 0 true 1) y1 = some (x1, A1) ∧ A1[M.length + 1]? = some .dead ∧ Grow M A1 ∧
      appendV (A1.set (M.length + 1) (.cells true [[k]])) [.int .u64 0] 8 x1 (.slice (M.length + 1) 0 1 1 true 1) = some (x2, A3) ∧ appendV A3 [.int .u64 0] 8 x2 y2 = some (x3, A4) ∧ Grow M A4 ∧ Sl A4 x3 1 (els.take at_ ++ [k] :: els.drop at_) ∧ capOk x3 = true := by
  have rm : ∀ n, n ≤ 65 → roomy n 8 = true := by intro n hn; simp [roomy]; omega
  obtain ⟨y1, e1, s1⟩ := slice_lo h hc hat
  obtain ⟨y2, e2, s2⟩ := slice_hi h hat
  have hg0 : Grow M (M ++ [Blk.cells true [], Blk.dead]) := (Grow.refl _).app
  have d0 : Dst M.length (M ++ [Blk.cells true [], Blk.dead]) (.slice M.length 0 0 0 true 1) [] := ⟨M.length, true, Nat.le_refl _, rfl, by rw [List.getElem?_append_right (Nat.le_refl _)]; simp⟩
  obtain ⟨x1, A1, p1, p2, p3, p4, p5⟩ := app_row (z := .int .u64 0) (bytes := 8) d0 (s1.grow hg0) (rm _ (by simp; omega)) (by simp)
  rw [List.nil_append] at p2
  have hg1 : Grow M A1 := Grow.keep hg0 fun c y hc hy => p3 c y (d0.blk hc) hy
  have hd1 : A1[M.length + 1]? = some .dead := p3 _ _ (by simp [blkOf]) (by rw [List.getElem?_append_right (by omega)]; simp)
  have hl1 := (List.getElem?_eq_some_iff.1 hd1).1
  have hx1 : blkOf x1 ≠ some (M.length + 1) := by
    rcases p4 with e | e <;> rw [e] <;> simp [blkOf]
  have hg2 : Grow M (A1.set (M.length + 1) (.cells true [[k]])) := hg1.set (by omega) _
  have d2 : Dst M.length (A1.set (M.length + 1) (.cells true [[k]])) x1 (els.take at_) := by
    obtain ⟨b, ex, h1, rfl, h3⟩ := p2
    exact ⟨b, ex, h1, rfl, by rw [List.getElem?_set_ne (fun e => hx1 (by rw [e]; rfl))]; exact h3⟩
  have hT : Sl (A1.set (M.length + 1) (.cells true [[k]])) (.slice (M.length + 1) 0 1 1 true 1) 1 [[k]] := Sl.mk (els := [[k]]) (own := true) (List.getElem?_set_self hl1)
  obtain ⟨x2, A3, q1, q2, q3, q4, q5⟩ := app_row (z := .int .u64 0) (bytes := 8) d2 hT (rm _ (by simp; omega)) hg2.len
  have hg3 : Grow M A3 := Grow.keep hg2 fun c y hc hy => q3 c y (d2.blk hc) hy
  obtain ⟨x3, A4, r1, r2, r3, r4, r5⟩ := app_row (z := .int .u64 0) (bytes := 8) q2 (s2.grow hg3) (rm _ (by simp; omega)) hg3.len
  have hg4 : Grow M A4 := Grow.keep hg3 fun c y hc hy => r3 c y (q2.blk hc) hy
  refine ⟨y1, y2, x1, A1, x2, A3, x3, A4, e1, e2, p1, hd1, hg1, q1, r1, hg4, ?_, r2.cap⟩
  have := r2.sl
  simpa using this
theorem set2 {M : Mem} {x : Blk} : (M ++ [Blk.dead, Blk.dead]).set M.length x = M ++ [x, Blk.dead] := by
  rw [List.set_append_right _ _ (Nat.le_refl _)]; simp
theorem get2 {M : Mem} : (M ++ [Blk.dead, Blk.dead])[M.length]? = some .dead := by
  rw [List.getElem?_append_right (Nat.le_refl _)]; simp
theorem sortI_len {l : List Slot} : (sortI l).length ≤ l.length := by rw [sortI_perm.length_eq]; exact used_len
theorem refAll_spec {m : Mem} {v : V} {l : List Slot} (hv : Sl m v 3 (encs l)) (hl : l.length < 2 ^ 60) : C S n_ref10_All [.agg [v]] m (fun r m' => ∃ kv vv, r = .tup [kv, vv, .int .i64 (allL l).2.2] ∧ Grow m m' ∧ Sl m' kv 1 (ints (allL l).1) ∧ Sl m' vv 1 (ints (allL l).2.1)) := by
  refine C_body rfl rfl rfl ?_
  unfold ref10_All
  have hcell := hv.cell
  have hlen : (encs l).length = l.length := by simp
  simp (maxDischargeDepth := 30) only [hcell, amL, args0, Nat.reduceEqDiff, reduceCtorEq, ↓reduceIte, Nat.reduceAdd, resultsA, results1, Int.reduceNeg, splice, Nat.reduceLeDiff, part, fillA, fillE, Nat.reduceLT]
  refine (refCheck_spec hv.app hl).mono ?_
  rintro _ M1 ⟨rfl, hg1⟩
  have hT1 : M1[m.length]? = some (.cells true [[v]]) := hg1.get (by simp)
  have hgm1 : Grow m M1 := (Grow.refl m).app.trans hg1
  by_cases hval : validB l = true
  · have c0 : ¬ ¬ (0 : Int) = 0 := by omega
    have h64 := valid_len hval
    simp (maxDischargeDepth := 30) only [aft_mk, hval, c0, load_at0 hT1, hv.len, hlen, amL, args0, Nat.reduceEqDiff, reduceCtorEq, ↓reduceIte, Nat.reduceAdd, resultsA, results1, Int.reduceNeg, splice, Nat.reduceLeDiff, part, fillA, fillE, Nat.reduceLT]
    have e1 : (allL l).1 = (sortI l).map (·.key) := by simp [allL, hval, sortI_eq hval]
    have e2 : (allL l).2.1 = (sortI l).map (·.val) := by simp [allL, hval, sortI_eq hval]
    have e3 : (allL l).2.2 = 0 := by simp [allL, hval]
    rw [e1, e2, e3]
    let I := fun (n : Nat) (fr : Frame) (M : Mem) => ∃ (i : Nat) (ku vu : V), i ≤ l.length ∧ n = l.length - i ∧ fr 5 = ku ∧ fr 6 = vu ∧ fr 14 = v ∧ fr 15 = .int .i64 l.length ∧ fr 16 = .int .i64 i ∧ Grow M1 M ∧ Sl M ku 1 (ints ((sortI (l.take i)).map (·.key))) ∧ Sl M vu 1 (ints ((sortI (l.take i)).map (·.val))) ∧ capOk ku = true ∧ capOk vu = true
    refine W_loop I ?_ l.length ?_
    · rintro n fr M ⟨i, ku, vu, hi, rfl, f5, f6, f14, f15, f16, hg, hku, hvu, ck, cv⟩
      unfold ref10_All_l0
      simp (maxDischargeDepth := 30) only [f5, f6, f14, f15, f16, amL, args0, Nat.reduceEqDiff, reduceCtorEq, ↓reduceIte, Nat.reduceAdd, resultsA, results1, Int.reduceNeg, splice, Nat.reduceLeDiff, part, fillA, fillE, Nat.reduceLT]
      first | (refine O_split (by simp only [put_apply, Nat.reduceEqDiff, ↓reduceIte, reduceCtorEq]; rfl) (fun h => ?_) (fun h => ?_) <;> simp only [decide_eq_true_eq, decide_eq_false_iff_not, Decidable.not_not, Bool.and_eq_true, Bool.not_eq_true', Bool.not_eq_false'] at h) | (refine W_split (by simp only [get_t, put_apply, Nat.reduceEqDiff, ↓reduceIte, reduceCtorEq]; rfl) (fun h => ?_) (fun h => ?_) <;> simp only [decide_eq_true_eq, decide_eq_false_iff_not, Decidable.not_not, Bool.and_eq_true, Bool.not_eq_true', Bool.not_eq_false'] at h)
      · have hil : i < l.length := by omega
        obtain ⟨s, hs⟩ : ∃ s, l[i]? = some s := ⟨_, List.getElem?_eq_getElem hil⟩
        have hsl := (hv.grow hgm1).grow hg
        have ix := hsl.index (ki := .i64) (n := i) (by omega) (by omega)
        have ld := fun o k => hsl.load (o := o) (k := k) (encs_get hs)
        simp only [Int.toNat_natCast, enc] at ix ld
        have w1 : IntKind.i64.wrap ((i : Int) + 1) = ((i + 1 : Nat) : Int) := by rw [wrap_i64] <;> omega
        have hsn := sortI_snoc hs
        by_cases hst : s.st = 1
        · have c11 : ¬ ¬ (1 : Int) = 1 := by omega
          rw [if_pos hst] at hsn
          simp (maxDischargeDepth := 30) only [h, f5, f6, f14, f15, f16, ix, ld, hst, c11, amL, args0, Nat.reduceEqDiff, reduceCtorEq, ↓reduceIte, Nat.reduceAdd, resultsA, results1, Int.reduceNeg, splice, Nat.reduceLeDiff, part, fillA, fillE, Nat.reduceLT]
          generalize ht : sortI (l.take i) = t at hku hvu hsn
          have htl : t.length ≤ 64 := by
            rw [← ht]
            have := sortI_len (l := l.take i)
            simp only [List.length_take] at this
            omega
          generalize hM2 : M ++ [Blk.cells true [[V.int .u8 1, V.int .u64 s.key, V.int .u64 s.val]]] = M2
          have hg2 : Grow M M2 := by rw [← hM2]; exact (Grow.refl _).app
          have hP : M2[M.length]? = some (.cells true [[V.int .u8 1, V.int .u64 s.key, V.int .u64 s.val]]) := by rw [← hM2]; simp
          have hk2 := hku.grow hg2
          have hv2 := hvu.grow hg2
          have hkl : (ints (t.map (·.key))).length = t.length := by simp
          have hvl : (ints (t.map (·.val))).length = t.length := by simp
          let J := fun (n : Nat) (fr : Frame) (M' : Mem) => ∃ a : Nat, a ≤ (t.takeWhile fun x => decide (x.key < s.key)).length ∧ n = (t.takeWhile fun x => decide (x.key < s.key)).length - a ∧ fr 5 = ku ∧ fr 6 = vu ∧ fr 8 = .ptr M.length 0 0 ∧ fr 9 = .int .i64 a ∧ fr 14 = v ∧ fr 15 = .int .i64 l.length ∧ fr 16 = .int .i64 i ∧ M' = M2
          have htw := takeWhile_len (t := t) (k := s.key)
          refine W.mono (Q := fun e fr' M' => e = .exit 2 ∧ fr' 5 = ku ∧ fr' 6 = vu ∧ fr' 8 = .ptr M.length 0 0 ∧ fr' 9 = .int .i64 (t.takeWhile fun x => decide (x.key < s.key)).length ∧ fr' 14 = v ∧ fr' 15 = .int .i64 l.length ∧ fr' 16 = .int .i64 i ∧ M' = M2) (W_loop J ?_ (t.takeWhile fun x => decide (x.key < s.key)).length ?_) ?_
          · rintro n fr M' ⟨a, ha, rfl, g5, g6, g8, g9, g14, g15, g16, rfl⟩
            have hws := walk_stop t s.key a ha
            unfold ref10_All_l1
            have w2 : IntKind.i64.wrap ((a : Int) + 1) = ((a + 1 : Nat) : Int) := by rw [wrap_i64] <;> omega
            by_cases hat : a < t.length
            · obtain ⟨x, hx⟩ : ∃ x, t[a]? = some x := ⟨_, List.getElem?_eq_getElem hat⟩
              have c2 : (a : Int) < t.length := by omega
              have ix2 := hk2.index (ki := .i64) (n := a) (by omega) (by omega)
              have ld2 := fun o j => hk2.load (o := o) (k := j) (i := a) (el := [.int .u64 x.key]) (by simp [hx])
              simp only [Int.toNat_natCast] at ix2 ld2
              by_cases hlt : x.key < s.key
              · have := (hws.1 x hx).1 hlt
                simp (maxDischargeDepth := 30) only [g5, g6, g8, g9, g14, g15, g16, hk2.len, hkl, c2, ix2, ld2, load_at0 hP, hlt, w2, List.replicate_zero, amL, args0, Nat.reduceEqDiff, reduceCtorEq, ↓reduceIte, Nat.reduceAdd, resultsA, results1, Int.reduceNeg, splice, Nat.reduceLeDiff, part, fillA, fillE, Nat.reduceLT]
                refine ⟨_, ?_, a + 1, by omega, rfl, ?_, ?_, ?_, ?_, ?_, ?_, ?_, rfl⟩
                · omega
                all_goals simp (maxDischargeDepth := 30) only [g5, g6, g8, g14, g15, g16, amL, args0, Nat.reduceEqDiff, reduceCtorEq, ↓reduceIte, Nat.reduceAdd, resultsA, results1, Int.reduceNeg, splice, Nat.reduceLeDiff, part, fillA, fillE, Nat.reduceLT]
              · have haw : a = (t.takeWhile fun x => decide (x.key < s.key)).length := by
                  have := mt (hws.1 x hx).2 hlt
                  omega
                simp (maxDischargeDepth := 30) only [g5, g6, g8, g9, g14, g15, g16, hk2.len, hkl, c2, ix2, ld2, load_at0 hP, hlt, w2, List.replicate_zero, amL, args0, Nat.reduceEqDiff, reduceCtorEq, ↓reduceIte, Nat.reduceAdd, resultsA, results1, Int.reduceNeg, splice, Nat.reduceLeDiff, part, fillA, fillE, Nat.reduceLT]
                rw [← haw]
            · have c2 : ¬ (a : Int) < t.length := by omega
              have haw := hws.2 (List.getElem?_eq_none (by omega))
              simp (maxDischargeDepth := 30) only [g5, g6, g8, g9, g14, g15, g16, hk2.len, hkl, c2, List.replicate_zero, amL, args0, Nat.reduceEqDiff, reduceCtorEq, ↓reduceIte, Nat.reduceAdd, resultsA, results1, Int.reduceNeg, splice, Nat.reduceLeDiff, part, fillA, fillE, Nat.reduceLT]
              rw [← haw]
          · refine ⟨0, Nat.zero_le _, rfl, by simp (maxDischargeDepth := 30) only [f5, amL, args0, Nat.reduceEqDiff, reduceCtorEq, ↓reduceIte, Nat.reduceAdd, resultsA, results1, Int.reduceNeg, splice, Nat.reduceLeDiff, part, fillA, fillE, Nat.reduceLT], by simp (maxDischargeDepth := 30) only [f6, amL, args0, Nat.reduceEqDiff, reduceCtorEq, ↓reduceIte, Nat.reduceAdd, resultsA, results1, Int.reduceNeg, splice, Nat.reduceLeDiff, part, fillA, fillE, Nat.reduceLT], by simp (maxDischargeDepth := 30) only [amL, args0, Nat.reduceEqDiff, reduceCtorEq, ↓reduceIte, Nat.reduceAdd, resultsA, results1, Int.reduceNeg, splice, Nat.reduceLeDiff, part, fillA, fillE, Nat.reduceLT], by simp (maxDischargeDepth := 30) only [amL, args0, Nat.reduceEqDiff, reduceCtorEq, ↓reduceIte, Nat.reduceAdd, resultsA, results1, Int.reduceNeg, splice, Nat.reduceLeDiff, part, fillA, fillE, Nat.reduceLT]; rfl, by simp (maxDischargeDepth := 30) only [f14, amL, args0, Nat.reduceEqDiff, reduceCtorEq, ↓reduceIte, Nat.reduceAdd, resultsA, results1, Int.reduceNeg, splice, Nat.reduceLeDiff, part, fillA, fillE, Nat.reduceLT], by simp (maxDischargeDepth := 30) only [f15, amL, args0, Nat.reduceEqDiff, reduceCtorEq, ↓reduceIte, Nat.reduceAdd, resultsA, results1, Int.reduceNeg, splice, Nat.reduceLeDiff, part, fillA, fillE, Nat.reduceLT], by simp (maxDischargeDepth := 30) only [f16, amL, args0, Nat.reduceEqDiff, reduceCtorEq, ↓reduceIte, Nat.reduceAdd, resultsA, results1, Int.reduceNeg, splice, Nat.reduceLeDiff, part, fillA, fillE, Nat.reduceLT], rfl⟩
          · rintro _ fr' M' ⟨rfl, g5, g6, g8, g9, g14, g15, g16, rfl⟩
            obtain ⟨y1, y2, x1, A1, x2, A3, x3, A4, k1, k2, k3, k4, k5, k6, k7, k8, k9, k10⟩ := ins_row (at_ := (t.takeWhile fun x => decide (x.key < s.key)).length) (.int .u64 s.key) hk2 ck (by rw [hkl]; exact htw) (by rw [hkl]; exact htl)
            have hP1 := k5.get hP
            have hP4 := k8.get hP
            obtain ⟨z1, z2, b1, B1, b2, B3, b3, B4, j1, j2, j3, j4, j5, j6, j7, j8, j9, j10⟩ := ins_row (at_ := (t.takeWhile fun x => decide (x.key < s.key)).length) (.int .u64 s.val) (hv2.grow k8) cv (by rw [hvl]; exact htw) (by rw [hvl]; exact htl)
            have hP5 := j5.get hP4
            have hzk : zOk ku 1 = true := hku.2
            have hzv : zOk vu 1 = true := hvu.2
            have r2 : ∀ M' : Mem, M' ++ List.replicate 2 Blk.dead = M' ++ [Blk.dead, Blk.dead] := fun _ => rfl
            have ek : Sl A4 x3 1 (ints ((insS t s).map (·.key))) := by rw [insS_take (·.key)]; simpa using k9
            have ev : Sl B4 b3 1 (ints ((insS t s).map (·.val))) := by rw [insS_take (·.val)]; simpa using j9
            simp (maxDischargeDepth := 30) only [g5, g6, g8, g9, g14, g15, g16, Option.map_none, Option.map_some, hzk, hzv, k1, k2, load_at0 hP, r2, get2, set2, k3, amL, args0, Nat.reduceEqDiff, reduceCtorEq, ↓reduceIte, Nat.reduceAdd, resultsA, results1, Int.reduceNeg, splice, Nat.reduceLeDiff, part, fillA, fillE, Nat.reduceLT]
            refine ⟨_, _, rfl, ⟨_, by rw [load_at0 hP1]; rfl, beq_int⟩, k4, x2, A3, k6, x3, A4, k7, z1, j1, .int .u64 s.val, by rw [load_at0 (getElem?_grow hP4)]; rfl, z2, j2, b1, B1, j3, ⟨_, by rw [load_at0 hP5]; rfl, beq_int⟩, j4, _, rfl, b2, B3, j6, b3, B4, j7, ?_⟩
            refine ⟨l.length - (i + 1), by omega, i + 1, x3, b3, by omega, rfl, ?_, ?_, ?_, ?_, ?_, ((hg.trans hg2).trans k8).trans j8, ?_, ?_, k10, j10⟩
            · simp (maxDischargeDepth := 30) only [amL, args0, Nat.reduceEqDiff, reduceCtorEq, ↓reduceIte, Nat.reduceAdd, resultsA, results1, Int.reduceNeg, splice, Nat.reduceLeDiff, part, fillA, fillE, Nat.reduceLT]
            · simp (maxDischargeDepth := 30) only [amL, args0, Nat.reduceEqDiff, reduceCtorEq, ↓reduceIte, Nat.reduceAdd, resultsA, results1, Int.reduceNeg, splice, Nat.reduceLeDiff, part, fillA, fillE, Nat.reduceLT]
            · simp (maxDischargeDepth := 30) only [g14, amL, args0, Nat.reduceEqDiff, reduceCtorEq, ↓reduceIte, Nat.reduceAdd, resultsA, results1, Int.reduceNeg, splice, Nat.reduceLeDiff, part, fillA, fillE, Nat.reduceLT]
            · simp (maxDischargeDepth := 30) only [g15, amL, args0, Nat.reduceEqDiff, reduceCtorEq, ↓reduceIte, Nat.reduceAdd, resultsA, results1, Int.reduceNeg, splice, Nat.reduceLeDiff, part, fillA, fillE, Nat.reduceLT]
            · simp (maxDischargeDepth := 30) only [g16, w1, amL, args0, Nat.reduceEqDiff, reduceCtorEq, ↓reduceIte, Nat.reduceAdd, resultsA, results1, Int.reduceNeg, splice, Nat.reduceLeDiff, part, fillA, fillE, Nat.reduceLT]
            · rw [hsn]; exact ek.grow j8
            · rw [hsn]; exact ev
        · rw [if_neg hst] at hsn
          simp (maxDischargeDepth := 30) only [h, f5, f6, f14, f15, f16, ix, ld, hst, w1, amL, args0, Nat.reduceEqDiff, reduceCtorEq, ↓reduceIte, Nat.reduceAdd, resultsA, results1, Int.reduceNeg, splice, Nat.reduceLeDiff, part, fillA, fillE, Nat.reduceLT]
          refine ⟨_, ?_, i + 1, ku, vu, by omega, rfl, ?_, ?_, ?_, ?_, ?_, hg.app, ?_, ?_, ck, cv⟩
          · omega
          · simp (maxDischargeDepth := 30) only [f5, amL, args0, Nat.reduceEqDiff, reduceCtorEq, ↓reduceIte, Nat.reduceAdd, resultsA, results1, Int.reduceNeg, splice, Nat.reduceLeDiff, part, fillA, fillE, Nat.reduceLT]
          · simp (maxDischargeDepth := 30) only [f6, amL, args0, Nat.reduceEqDiff, reduceCtorEq, ↓reduceIte, Nat.reduceAdd, resultsA, results1, Int.reduceNeg, splice, Nat.reduceLeDiff, part, fillA, fillE, Nat.reduceLT]
          · simp (maxDischargeDepth := 30) only [f14, amL, args0, Nat.reduceEqDiff, reduceCtorEq, ↓reduceIte, Nat.reduceAdd, resultsA, results1, Int.reduceNeg, splice, Nat.reduceLeDiff, part, fillA, fillE, Nat.reduceLT]
          · simp (maxDischargeDepth := 30) only [f15, amL, args0, Nat.reduceEqDiff, reduceCtorEq, ↓reduceIte, Nat.reduceAdd, resultsA, results1, Int.reduceNeg, splice, Nat.reduceLeDiff, part, fillA, fillE, Nat.reduceLT]
          · simp (maxDischargeDepth := 30) only [amL, args0, Nat.reduceEqDiff, reduceCtorEq, ↓reduceIte, Nat.reduceAdd, resultsA, results1, Int.reduceNeg, splice, Nat.reduceLeDiff, part, fillA, fillE, Nat.reduceLT]
          · rw [hsn]; exact hku.app
          · rw [hsn]; exact hvu.app
      · have : i = l.length := by omega
        subst this
        rw [List.take_length] at hku hvu
        simp (maxDischargeDepth := 30) only [h, f5, f6, f14, f15, f16, amL, args0, Nat.reduceEqDiff, reduceCtorEq, ↓reduceIte, Nat.reduceAdd, resultsA, results1, Int.reduceNeg, splice, Nat.reduceLeDiff, part, fillA, fillE, Nat.reduceLT]
        exact ⟨_, _, rfl, hgm1.trans hg, hku, hvu⟩
    · refine ⟨0, .nils, .nils, by omega, rfl, by simp (maxDischargeDepth := 30) only [amL, args0, Nat.reduceEqDiff, reduceCtorEq, ↓reduceIte, Nat.reduceAdd, resultsA, results1, Int.reduceNeg, splice, Nat.reduceLeDiff, part, fillA, fillE, Nat.reduceLT], by simp (maxDischargeDepth := 30) only [amL, args0, Nat.reduceEqDiff, reduceCtorEq, ↓reduceIte, Nat.reduceAdd, resultsA, results1, Int.reduceNeg, splice, Nat.reduceLeDiff, part, fillA, fillE, Nat.reduceLT], by simp (maxDischargeDepth := 30) only [amL, args0, Nat.reduceEqDiff, reduceCtorEq, ↓reduceIte, Nat.reduceAdd, resultsA, results1, Int.reduceNeg, splice, Nat.reduceLeDiff, part, fillA, fillE, Nat.reduceLT], by simp (maxDischargeDepth := 30) only [amL, args0, Nat.reduceEqDiff, reduceCtorEq, ↓reduceIte, Nat.reduceAdd, resultsA, results1, Int.reduceNeg, splice, Nat.reduceLeDiff, part, fillA, fillE, Nat.reduceLT], by simp (maxDischargeDepth := 30) only [amL, args0, Nat.reduceEqDiff, reduceCtorEq, ↓reduceIte, Nat.reduceAdd, resultsA, results1, Int.reduceNeg, splice, Nat.reduceLeDiff, part, fillA, fillE, Nat.reduceLT]; rfl, Grow.refl _, ⟨rfl, rfl⟩, ⟨rfl, rfl⟩, rfl, rfl⟩
  · have c : ¬ (2 : Int) = 0 := by omega
    simp (maxDischargeDepth := 30) only [aft_mk, hval, c, allL, amL, args0, Nat.reduceEqDiff, reduceCtorEq, ↓reduceIte, Nat.reduceAdd, resultsA, results1, Int.reduceNeg, splice, Nat.reduceLeDiff, part, fillA, fillE, Nat.reduceLT]
    exact ⟨_, _, rfl, hgm1, ⟨rfl, rfl⟩, ⟨rfl, rfl⟩⟩
end Go.AM.G

set_option maxRecDepth 100000
namespace Go.AM.G
open Go Go.AM
theorem Same64_spec {m : Mem} {u v : V} {l k : List Int} (hu : Sl m u 1 (ints l)) (hv : Sl m v 1 (ints k)) (hl : l.length < 2 ^ 60) : C S n_ref09_Same [u, v] m (fun r m' => r = .bool (decide (l = k)) ∧ Grow m m') := by
  refine C_body rfl rfl rfl ?_
  unfold ref09_Same
  have hlen1 : (ints l).length = l.length := by simp
  have hlen2 : (ints k).length = k.length := by simp
  simp (maxDischargeDepth := 30) only [hu.len, hv.len, hlen1, hlen2, amL, args0, Nat.reduceEqDiff, reduceCtorEq, ↓reduceIte, Nat.reduceAdd, resultsA, results1, Int.reduceNeg, splice, Nat.reduceLeDiff, part, fillA, fillE, Nat.reduceLT]
  first | (refine O_split (by simp only [put_apply, Nat.reduceEqDiff, ↓reduceIte, reduceCtorEq]; rfl) (fun h0 => ?_) (fun h0 => ?_) <;> simp only [decide_eq_true_eq, decide_eq_false_iff_not, Decidable.not_not, Bool.and_eq_true, Bool.not_eq_true', Bool.not_eq_false'] at h0) | (refine W_split (by simp only [get_t, put_apply, Nat.reduceEqDiff, ↓reduceIte, reduceCtorEq]; rfl) (fun h0 => ?_) (fun h0 => ?_) <;> simp only [decide_eq_true_eq, decide_eq_false_iff_not, Decidable.not_not, Bool.and_eq_true, Bool.not_eq_true', Bool.not_eq_false'] at h0)
  · have : ¬ l = k := by rintro rfl; exact h0 rfl
    simp (maxDischargeDepth := 30) only [this, amL, args0, Nat.reduceEqDiff, reduceCtorEq, ↓reduceIte, Nat.reduceAdd, resultsA, results1, Int.reduceNeg, splice, Nat.reduceLeDiff, part, fillA, fillE, Nat.reduceLT]
    exact Grow.refl _
  have h00 : l.length = k.length := by omega
  simp (maxDischargeDepth := 30) only [hu.len, hlen1, amL, args0, Nat.reduceEqDiff, reduceCtorEq, ↓reduceIte, Nat.reduceAdd, resultsA, results1, Int.reduceNeg, splice, Nat.reduceLeDiff, part, fillA, fillE, Nat.reduceLT]
  let I := fun (n : Nat) (fr : Frame) (M : Mem) => ∃ i : Nat, i ≤ l.length ∧ n = l.length - i ∧ fr 0 = u ∧ fr 1 = v ∧ fr 12 = .int .i64 l.length ∧ fr 13 = .int .i64 i ∧ (l.drop i = k.drop i ↔ l = k) ∧ M = m
  refine W_loop I ?_ l.length ?_
  · rintro n fr M ⟨i, hi, rfl, f0, f1, f12, f13, hd, rfl⟩
    unfold ref09_Same_l0
    simp (maxDischargeDepth := 30) only [f0, f1, f12, f13, amL, args0, Nat.reduceEqDiff, reduceCtorEq, ↓reduceIte, Nat.reduceAdd, resultsA, results1, Int.reduceNeg, splice, Nat.reduceLeDiff, part, fillA, fillE, Nat.reduceLT]
    first | (refine O_split (by simp only [put_apply, Nat.reduceEqDiff, ↓reduceIte, reduceCtorEq]; rfl) (fun h => ?_) (fun h => ?_) <;> simp only [decide_eq_true_eq, decide_eq_false_iff_not, Decidable.not_not, Bool.and_eq_true, Bool.not_eq_true', Bool.not_eq_false'] at h) | (refine W_split (by simp only [get_t, put_apply, Nat.reduceEqDiff, ↓reduceIte, reduceCtorEq]; rfl) (fun h => ?_) (fun h => ?_) <;> simp only [decide_eq_true_eq, decide_eq_false_iff_not, Decidable.not_not, Bool.and_eq_true, Bool.not_eq_true', Bool.not_eq_false'] at h)
    · have hil : i < l.length := by omega
      obtain ⟨s, hs⟩ : ∃ s, l[i]? = some s := ⟨_, List.getElem?_eq_getElem hil⟩
      obtain ⟨t, ht⟩ : ∃ t, k[i]? = some t := ⟨_, List.getElem?_eq_getElem (by omega)⟩
      have ix := hu.index (ki := .i64) (n := i) (by omega) (by omega)
      have ld := fun o j => hu.load (o := o) (k := j) (i := i) (el := [.int .u64 s]) (by simp [hs])
      have ix2 := hv.index (ki := .i64) (n := i) (by omega) (by omega)
      have ld2 := fun o j => hv.load (o := o) (k := j) (i := i) (el := [.int .u64 t]) (by simp [ht])
      simp only [Int.toNat_natCast] at ix ld ix2 ld2
      have w1 : IntKind.i64.wrap ((i : Int) + 1) = ((i + 1 : Nat) : Int) := by rw [wrap_i64] <;> omega
      have hdd : (l.drop i = k.drop i) ↔ (s = t ∧ l.drop (i + 1) = k.drop (i + 1)) := by
        obtain ⟨a1, e1⟩ := List.getElem?_eq_some_iff.1 hs
        obtain ⟨a2, e2⟩ := List.getElem?_eq_some_iff.1 ht
        rw [List.drop_eq_getElem_cons a1, List.drop_eq_getElem_cons a2, e1, e2, List.cons.injEq]
      by_cases hst : s = t
      · subst hst
        have hd' : l.drop (i + 1) = k.drop (i + 1) ↔ l = k := by rw [← hd, hdd]; simp
        have c1 : ¬ ¬ s = s := fun h => h rfl
        simp (maxDischargeDepth := 30) only [h, f0, f1, f12, f13, ix, ld, ix2, ld2, w1, List.replicate_zero, c1, amL, args0, Nat.reduceEqDiff, reduceCtorEq, ↓reduceIte, Nat.reduceAdd, resultsA, results1, Int.reduceNeg, splice, Nat.reduceLeDiff, part, fillA, fillE, Nat.reduceLT]
        refine ⟨_, ?_, i + 1, by omega, rfl, ?_, ?_, ?_, ?_, hd', rfl⟩
        · omega
        all_goals simp (maxDischargeDepth := 30) only [f0, f1, f12, f13, amL, args0, Nat.reduceEqDiff, reduceCtorEq, ↓reduceIte, Nat.reduceAdd, resultsA, results1, Int.reduceNeg, splice, Nat.reduceLeDiff, part, fillA, fillE, Nat.reduceLT]
      · have hne : ¬ l = k := by rw [← hd, hdd]; exact fun e => hst e.1
        simp (maxDischargeDepth := 30) only [h, f0, f1, f12, f13, ix, ld, ix2, ld2, w1, List.replicate_zero, hst, hne, amL, args0, Nat.reduceEqDiff, reduceCtorEq, ↓reduceIte, Nat.reduceAdd, resultsA, results1, Int.reduceNeg, splice, Nat.reduceLeDiff, part, fillA, fillE, Nat.reduceLT]
        exact Grow.refl _
    · have : i = l.length := by omega
      subst this
      rw [List.drop_length, h00, List.drop_length] at hd
      have : l = k := hd.1 rfl
      simp (maxDischargeDepth := 30) only [h, f0, f1, f12, f13, this, amL, args0, Nat.reduceEqDiff, reduceCtorEq, ↓reduceIte, Nat.reduceAdd, resultsA, results1, Int.reduceNeg, splice, Nat.reduceLeDiff, part, fillA, fillE, Nat.reduceLT]
      exact Grow.refl _
  · exact ⟨0, by omega, rfl, by simp (maxDischargeDepth := 30) only [amL, args0, Nat.reduceEqDiff, reduceCtorEq, ↓reduceIte, Nat.reduceAdd, resultsA, results1, Int.reduceNeg, splice, Nat.reduceLeDiff, part, fillA, fillE, Nat.reduceLT], by simp (maxDischargeDepth := 30) only [amL, args0, Nat.reduceEqDiff, reduceCtorEq, ↓reduceIte, Nat.reduceAdd, resultsA, results1, Int.reduceNeg, splice, Nat.reduceLeDiff, part, fillA, fillE, Nat.reduceLT], by simp (maxDischargeDepth := 30) only [amL, args0, Nat.reduceEqDiff, reduceCtorEq, ↓reduceIte, Nat.reduceAdd, resultsA, results1, Int.reduceNeg, splice, Nat.reduceLeDiff, part, fillA, fillE, Nat.reduceLT], by simp (maxDischargeDepth := 30) only [amL, args0, Nat.reduceEqDiff, reduceCtorEq, ↓reduceIte, Nat.reduceAdd, resultsA, results1, Int.reduceNeg, splice, Nat.reduceLeDiff, part, fillA, fillE, Nat.reduceLT]; rfl, by simp, rfl⟩
theorem beq_agg1 {M : Mem} {v : V} {els : List (List V)} {z : Nat} (h : Sl M v z els) : V.beq (.agg [v]) (.agg [v]) = true := by
  rcases h.cases with ⟨rfl, _⟩ | ⟨b, i, len, cap, ex, rfl⟩ <;> simp [V.beq, V.beqs]
/-- EphemAsks on the abstract machine. -/
theorem asks_spec {m : Mem} {v : V} {l : List Slot} (key n : Int) (hv : Sl m v 3 (encs l)) (hl : l.length < 5864062014806) : C S n_law10_EphemAsks [.agg [v], .int .u64 key, .int .i64 n] m (fun r m' => r = .bool true ∧ Grow m m') := by
  refine C_body rfl rfl rfl ?_
  unfold law10_EphemAsks
  have hcell := hv.cell
  simp (maxDischargeDepth := 30) only [hcell, amL, args0, Nat.reduceEqDiff, reduceCtorEq, ↓reduceIte, Nat.reduceAdd, resultsA, results1, Int.reduceNeg, splice, Nat.reduceLeDiff, part, fillA, fillE, Nat.reduceLT]
  have h3 : ∀ k M, Grow (m ++ [Blk.cells true [[v]]]) M → loadV M k (.ptr m.length 0 0) = part [v] 0 k := fun k M hM => load_at0 (own := true) (hM.get (by simp))
  have hvv : ∀ M, Grow (m ++ [Blk.cells true [[v]]]) M → Sl M v 3 (encs l) ∧ Grow m M := fun M hM => ⟨(hv.app).grow hM, (Grow.refl m).app.trans hM⟩
  generalize m ++ [Blk.cells true [[v]]] = M0 at h3 hvv
  obtain ⟨a1, a2⟩ := hvv M0 (Grow.refl _)
  refine (Get_spec key a1 (by omega)).mono ?_
  rintro _ M1 ⟨rfl, hg1⟩
  obtain ⟨b1, b2⟩ := hvv M1 hg1
  simp (maxDischargeDepth := 30) only [aft_mk, h3 _ _ hg1, amL, args0, Nat.reduceEqDiff, reduceCtorEq, ↓reduceIte, Nat.reduceAdd, resultsA, results1, Int.reduceNeg, splice, Nat.reduceLeDiff, part, fillA, fillE, Nat.reduceLT]
  refine (refGet_spec key b1 (by omega)).mono ?_
  rintro _ M2 ⟨rfl, hg2⟩
  have hG2 := hg1.trans hg2
  obtain ⟨c1, c2⟩ := hvv M2 hG2
  simp (maxDischargeDepth := 30) only [aft_mk, h3 _ _ hG2, amL, args0, Nat.reduceEqDiff, reduceCtorEq, ↓reduceIte, Nat.reduceAdd, resultsA, results1, Int.reduceNeg, splice, Nat.reduceLeDiff, part, fillA, fillE, Nat.reduceLT]
  refine (All_spec c1 hl).mono ?_
  rintro _ M3 ⟨kv, vv, rfl, hg3, hkv, hvv3⟩
  have hG3 := hG2.trans hg3
  obtain ⟨d1, d2⟩ := hvv M3 hG3
  simp (maxDischargeDepth := 30) only [aft_mk, h3 _ _ hG3, amL, args0, Nat.reduceEqDiff, reduceCtorEq, ↓reduceIte, Nat.reduceAdd, resultsA, results1, Int.reduceNeg, splice, Nat.reduceLeDiff, part, fillA, fillE, Nat.reduceLT]
  refine (refAll_spec d1 (by omega)).mono ?_
  rintro _ M4 ⟨kv', vv', rfl, hg4, hkv', hvv4⟩
  have hG4 := hG3.trans hg4
  simp (maxDischargeDepth := 30) only [aft_mk, amL, args0, Nat.reduceEqDiff, reduceCtorEq, ↓reduceIte, Nat.reduceAdd, resultsA, results1, Int.reduceNeg, splice, Nat.reduceLeDiff, part, fillA, fillE, Nat.reduceLT]
  refine (Home_spec key n).mono ?_
  rintro _ _ ⟨rfl, rfl⟩
  simp (maxDischargeDepth := 30) only [aft_mk, amL, args0, Nat.reduceEqDiff, reduceCtorEq, ↓reduceIte, Nat.reduceAdd, resultsA, results1, Int.reduceNeg, splice, Nat.reduceLeDiff, part, fillA, fillE, Nat.reduceLT]
  refine (refHome_spec key n).mono ?_
  rintro _ _ ⟨rfl, rfl⟩
  simp (maxDischargeDepth := 30) only [aft_mk, List.replicate_zero, amL, args0, Nat.reduceEqDiff, reduceCtorEq, ↓reduceIte, Nat.reduceAdd, resultsA, results1, Int.reduceNeg, splice, Nat.reduceLeDiff, part, fillA, fillE, Nat.reduceLT]
  have hal : (allL l).1.length < 2 ^ 60 ∧ (allL l).2.1.length < 2 ^ 60 := by
    by_cases hval : validB l = true
    · have := valid_len hval
      have h2 := used_len (l := l)
      simp [allL, hval, srtL_len]; omega
    · simp [allL, hval]
  refine lives_spec.mono ?_
  rintro _ _ ⟨rfl, rfl⟩
  simp (maxDischargeDepth := 30) only [aft_mk, amL, args0, Nat.reduceEqDiff, reduceCtorEq, ↓reduceIte, Nat.reduceAdd, resultsA, results1, Int.reduceNeg, splice, Nat.reduceLeDiff, part, fillA, fillE, Nat.reduceLT]
  refine (Same64_spec (hkv.grow hg4) hkv' hal.1).mono ?_
  rintro _ M5 ⟨rfl, hg5⟩
  have hG5 := hG4.trans hg5
  simp (maxDischargeDepth := 30) only [aft_mk, amL, args0, Nat.reduceEqDiff, reduceCtorEq, ↓reduceIte, Nat.reduceAdd, resultsA, results1, Int.reduceNeg, splice, Nat.reduceLeDiff, part, fillA, fillE, Nat.reduceLT]
  refine (Same64_spec ((hvv3.grow hg4).grow hg5) (hvv4.grow hg5) hal.2).mono ?_
  rintro _ M6 ⟨rfl, hg6⟩
  have hG6 := hG5.trans hg6
  obtain ⟨e1, e2⟩ := hvv M6 hG6
  simp (maxDischargeDepth := 30) only [aft_mk, h3 _ _ hG6, amL, args0, Nat.reduceEqDiff, reduceCtorEq, ↓reduceIte, Nat.reduceAdd, resultsA, results1, Int.reduceNeg, splice, Nat.reduceLeDiff, part, fillA, fillE, Nat.reduceLT]
  refine (Check_spec e1 (by omega)).mono ?_
  rintro _ M7 ⟨rfl, hg7⟩
  have hG7 := hG6.trans hg7
  obtain ⟨f1, f2⟩ := hvv M7 hG7
  have hb := beq_agg1 hv
  have hpt : part [v] 0 (some 1) = some (V.agg [v]) := rfl
  simp (maxDischargeDepth := 30) only [aftC_mk, amL, args0, Nat.reduceEqDiff, reduceCtorEq, ↓reduceIte, Nat.reduceAdd, resultsA, results1, Int.reduceNeg, splice, Nat.reduceLeDiff, part, fillA, fillE, Nat.reduceLT]
  refine ⟨by simp [chkOk, wantedA, put_apply, Arg.get, h3 _ _ hG7, hpt, hb], ?_⟩
  refine (refCheck_spec f1 (by omega)).mono ?_
  rintro _ M8 ⟨rfl, hg8⟩
  simp (maxDischargeDepth := 30) only [aft_mk, amL, args0, Nat.reduceEqDiff, reduceCtorEq, ↓reduceIte, Nat.reduceAdd, resultsA, results1, Int.reduceNeg, splice, Nat.reduceLeDiff, part, fillA, fillE, Nat.reduceLT]
  exact f2.trans hg8
end Go.AM.G
