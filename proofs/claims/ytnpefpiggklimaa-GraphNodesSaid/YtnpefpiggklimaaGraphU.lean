/- The plain law of a graph without a node. -/
import Derived.Test.YtnpefpiggklimaaGraphQ
set_option linter.unusedVariables false
set_option linter.unusedSimpArgs false

namespace Go.AM.G
open Go Go.AM
def restI (y : Int) (l : List Int) : List Int := l.filterMap fun p => if p < y then some p else if y < p then some (p - 1) else none
def woA (y : Int) (x : NodeA) : NodeA := ⟨x.addr, x.words, restI y x.to⟩
def woN (N : List NodeA) (y : Nat) : List NodeA := (N.eraseIdx y).map (woA y)
/-- a place of what is left, where it was. -/
def sk (y p : Nat) : Nat := if p < y then p else p + 1
theorem sk_ne {y p : Nat} : sk y p ≠ y := by unfold sk; split <;> omega
theorem sk_inj {y p q : Nat} (h : sk y p = sk y q) : p = q := by unfold sk at h; split at h <;> split at h <;> omega
theorem sk_surj {y p : Nat} (h : p ≠ y) : ∃ p', sk y p' = p := by
  by_cases h1 : p < y
  · exact ⟨p, by simp [sk, h1]⟩
  · exact ⟨p - 1, by unfold sk; rw [if_neg (by omega)]; omega⟩
theorem sk_mono {y p q : Nat} (h : p < q) : sk y p < sk y q := by unfold sk; split <;> split <;> omega
theorem restI_succ {y : Int} {l : List Int} {i : Nat} {x : Int} (h : l[i]? = some x) : restI y (l.take (i + 1)) = restI y (l.take i) ++ (if x < y then [x] else if y < x then [x - 1] else []) := by
  obtain ⟨h1, h2⟩ := List.getElem?_eq_some_iff.1 h
  unfold restI
  rw [List.take_succ_eq_append_getElem h1, h2, List.filterMap_append]
  congr 1
  by_cases a : x < y
  · simp [a]
  · by_cases b : y < x <;> simp [a, b]
theorem restI_len {y : Int} {l : List Int} : (restI y l).length ≤ l.length := List.length_filterMap_le _ _
theorem mem_restI {y : Nat} {l : List Nat} {x : Nat} : (x : Int) ∈ restI y (ints' l) ↔ sk y x ∈ l := by
  unfold restI
  rw [List.mem_filterMap]
  constructor
  · rintro ⟨a, ha, h⟩
    obtain ⟨b, hb, rfl⟩ := List.mem_map.1 ha
    by_cases h1 : (b : Int) < y
    · simp [h1] at h
      have : sk y x = b := by unfold sk; split <;> omega
      rw [this]; exact hb
    · by_cases h2 : (y : Int) < b
      · simp [h1, h2] at h
        have : sk y x = b := by unfold sk; split <;> omega
        rw [this]; exact hb
      · simp [h1, h2] at h
  · intro h
    refine ⟨sk y x, List.mem_map.2 ⟨_, h, rfl⟩, ?_⟩
    unfold sk
    by_cases h1 : x < y
    · rw [if_pos h1, if_pos (by omega)]
    · rw [if_neg h1, if_neg (by omega), if_pos (by omega)]
      simp
theorem restI_mem {y : Int} {l : List Int} {x : Int} (h : x ∈ restI y l) : (x ∈ l ∧ x < y) ∨ (x + 1 ∈ l ∧ y ≤ x) := by
  unfold restI at h
  obtain ⟨a, ha, h⟩ := List.mem_filterMap.1 h
  by_cases h1 : a < y
  · simp [h1] at h; subst h; exact .inl ⟨ha, h1⟩
  · by_cases h2 : y < a
    · simp [h1, h2] at h; subst h
      refine .inr ⟨by simpa using ha, by omega⟩
    · simp [h1, h2] at h
theorem restI_sorted {y : Int} {l : List Int} (h : l.Pairwise (· < ·)) : (restI y l).Pairwise (· < ·) := by
  unfold restI
  rw [List.pairwise_filterMap]
  refine h.imp fun {a b} hab c hc d hd => ?_
  by_cases h1 : a < y
  · simp [h1] at hc
    by_cases h2 : b < y
    · simp [h2] at hd; omega
    · by_cases h3 : y < b
      · simp [h2, h3] at hd; omega
      · simp [h2, h3] at hd
  · by_cases h4 : y < a
    · simp [h1, h4] at hc
      have h2 : ¬ b < y := by omega
      have h3 : y < b := by omega
      simp [h2, h3] at hd; omega
    · simp [h1, h4] at hc
theorem rises_mk : ∀ (l : List Int) (n last : Int), (∀ x ∈ l, last < x ∧ x < n) → l.Pairwise (· < ·) → risesB n last l = true
  | [], _, _, _, _ => rfl
  | p :: r, n, last, h, hp => by
    rw [List.pairwise_cons] at hp
    have h1 := h p (by simp)
    simp only [risesB, Bool.and_eq_true, decide_eq_true_eq]
    exact ⟨h1, rises_mk r n p (fun x hx => ⟨hp.1 x hx, (h x (by simp [hx])).2⟩) hp.2⟩
theorem nodes_mk : ∀ (l : List NodeA) (n last : Int), (∀ x ∈ l, last < x.addr ∧ 1 ≤ x.words ∧ x.words ≤ 49 ∧ risesB n (-1) x.to = true) → l.Pairwise (fun a b => a.addr < b.addr) → nodesB n last l = true
  | [], _, _, _, _ => rfl
  | p :: r, n, last, h, hp => by
    rw [List.pairwise_cons] at hp
    obtain ⟨h1, h2, h3, h4⟩ := h p (by simp)
    simp only [nodesB, Bool.and_eq_true, decide_eq_true_eq]
    exact ⟨h1, ⟨h2, h3⟩, h4, nodes_mk r n p.addr (fun x hx => by obtain ⟨_, b⟩ := h x (by simp [hx]); exact ⟨hp.1 x hx, b⟩) hp.2⟩
theorem nodes_sorted : ∀ (l : List NodeA) (n last : Int), nodesB n last l = true → l.Pairwise (fun a b => a.addr < b.addr)
  | [], _, _, _ => .nil
  | p :: r, n, last, h => by
    simp only [nodesB, Bool.and_eq_true, decide_eq_true_eq] at h
    exact List.pairwise_cons.2 ⟨fun x hx => (nodes_ok r n p.addr h.2.2.2 x hx).2.2.2, nodes_sorted r n p.addr h.2.2.2⟩
section
variable {N : List NodeA} {R : List Int} {y : Nat}
theorem woN_len (hy : y < N.length) : (woN N y).length + 1 = N.length := by
  unfold woN
  rw [List.length_map, List.length_eraseIdx_of_lt hy]
  omega
theorem woN_get {p : Nat} : (woN N y)[p]? = (N[sk y p]?).map (woA y) := by
  unfold woN sk
  rw [List.getElem?_map, List.getElem?_eraseIdx]
  split <;> rfl
theorem rest_ok {n : Int} {l : List Int} (hy : (y : Int) < n) (h : risesB n (-1) l = true) : risesB (n - 1) (-1) (restI y l) = true := by
  obtain ⟨h1, h2⟩ := rises_ok _ _ _ (by omega) h
  refine rises_mk _ _ _ (fun x hx => ?_) (restI_sorted h2)
  rcases restI_mem hx with ⟨a, b⟩ | ⟨a, b⟩
  · have := h1 x a; omega
  · have := h1 _ a; omega
theorem wo_valid (h : validG N R = true) (hy : y < N.length) : validG (woN N y) (restI y R) = true := by
  have hl := woN_len hy
  simp only [validG, Bool.and_eq_true, decide_eq_true_eq] at h ⊢
  obtain ⟨h1, h2, h3⟩ := h
  have e : ((woN N y).length : Int) = N.length - 1 := by omega
  refine ⟨by omega, by rw [e]; exact rest_ok (by omega) h2, nodes_mk _ _ _ (fun x hx => ?_) ?_⟩
  · unfold woN at hx
    obtain ⟨z, hz, rfl⟩ := List.mem_map.1 hx
    obtain ⟨a, b, c, d⟩ := nodes_ok N _ _ h3 z (List.mem_of_mem_eraseIdx hz)
    exact ⟨d, b, c, by rw [e]; exact rest_ok (by omega) a⟩
  · unfold woN
    rw [List.pairwise_map]
    exact (nodes_sorted N _ _ h3).sublist (List.eraseIdx_sublist _ _)
theorem mem_to_wo (h : validG N R = true) {p x : Nat} : x ∈ toN (woN N y) p ↔ sk y x ∈ toN N (sk y p) := by
  obtain ⟨_, hto, _⟩ := valid_to h
  have e : toN (woN N y) p = (((N[sk y p]?).map fun x => restI y x.to).getD []).map Int.toNat := by
    unfold toN
    rw [woN_get]
    cases N[sk y p]? <;> rfl
  rw [e]
  cases hp : N[sk y p]? with
  | none =>
    have : toN N (sk y p) = [] := by simp [toN, hp]
    simp [this]
  | some nd =>
    have ht := hto _ nd hp
    simp only [Option.map_some, Option.getD_some]
    rw [ht, ← mem_restI]
    rw [List.mem_map]
    constructor
    · rintro ⟨a, ha, rfl⟩
      have : 0 ≤ a := by
        rcases restI_mem ha with ⟨h1, _⟩ | ⟨_, h1⟩
        · obtain ⟨b, _, rfl⟩ := List.mem_map.1 h1; omega
        · omega
      rwa [Int.toNat_of_nonneg this]
    · exact fun h => ⟨_, h, by simp⟩
theorem mem_roots_wo (h : validG N R = true) {x : Nat} : x ∈ rootsN (restI y R) ↔ sk y x ∈ rootsN R := by
  obtain ⟨_, _, _, hR, _⟩ := valid_to h
  have hR : R = ints' (rootsN R) := hR
  have e : rootsN (restI y R) = (restI y (ints' (rootsN R))).map Int.toNat := by rw [← hR]; rfl
  rw [e, ← mem_restI, List.mem_map]
  constructor
  · rintro ⟨a, ha, rfl⟩
    have : 0 ≤ a := by
      rcases restI_mem ha with ⟨h1, _⟩ | ⟨_, h1⟩
      · obtain ⟨b, _, rfl⟩ := List.mem_map.1 h1; omega
      · omega
    rwa [Int.toNat_of_nonneg this]
  · exact fun h => ⟨_, h, by simp⟩
/-- what is reached without a node. -/
theorem wo_live (h : validG N R = true) {p : Nat} : Live (woN N y) (restI y R) p ↔ ∃ j, Pth (toN N) (rootsN R) y j (sk y p) := by
  constructor
  · rintro ⟨r, hr, hp⟩
    induction hp with
    | refl => exact ⟨0, .start ((mem_roots_wo h).1 hr) (by have := @sk_ne y r; omega)⟩
    | @step a b _ hb ih =>
      obtain ⟨j, hj⟩ := ih
      exact ⟨j + 1, .step hj ((mem_to_wo h).1 hb) (by have := @sk_ne y b; omega)⟩
  · rintro ⟨j, hj⟩
    generalize hq : sk y p = q at hj
    induction hj generalizing p with
    | @start q hs hne =>
      subst hq
      exact ⟨p, (mem_roots_wo h).2 hs, .refl p⟩
    | @step j a b hp hb hne ih =>
      subst hq
      have ha : (a : Int) ≠ y := by cases hp <;> assumption
      obtain ⟨a', rfl⟩ := sk_surj (y := y) (p := a) (by omega)
      obtain ⟨r, h1, h2⟩ := ih rfl
      exact ⟨r, h1, .step h2 ((mem_to_wo h).2 hb)⟩
theorem sum_sk (f : Nat → Int) : ∀ k : Nat, ((List.range k).map fun p => f (sk y p)).sum = ((List.range (if k ≤ y then k else k + 1)).map fun p => if p = y then 0 else f p).sum
  | 0 => by simp
  | k + 1 => by
    rw [List.range_succ, List.map_append, List.sum_append, sum_sk f k]
    by_cases h1 : k + 1 ≤ y
    · rw [if_pos (show k ≤ y by omega), if_pos h1, List.range_succ, List.map_append, List.sum_append]
      have e : sk y k = k := by unfold sk; rw [if_pos (by omega)]
      have e2 : ¬ k = y := by omega
      simp [e, e2]
    · rw [if_neg h1]
      by_cases h2 : k ≤ y
      · have e : k = y := by omega
        subst e
        rw [if_pos (Nat.le_refl _), List.range_succ (n := k + 1), List.map_append, List.sum_append, List.range_succ (n := k), List.map_append, List.sum_append]
        simp [sk]
      · rw [if_neg h2, List.range_succ (n := k + 1), List.map_append, List.sum_append]
        have e : sk y k = k + 1 := by unfold sk; rw [if_neg (by omega)]
        have e2 : ¬ k + 1 = y := by omega
        simp [e, e2]
theorem wd_wo {p : Nat} : wd (woN N y) p = wd N (sk y p) := by
  unfold wd
  rw [woN_get]
  cases N[sk y p]? <;> rfl
/-- words without a node. -/
theorem sum_wo (hy : y < N.length) (lx av : Nat → Bool) (h : ∀ p, p < (woN N y).length → lx p = av (sk y p)) (hav : av y = false) : sumW (woN N y) lx (woN N y).length = sumW N av N.length := by
  have hl := woN_len hy
  unfold sumW
  have e1 : ((List.range (woN N y).length).map fun p => if lx p = true then wd (woN N y) p else 0) = (List.range (woN N y).length).map fun p => (fun q => if av q = true then wd N q else 0) (sk y p) := by
    refine List.map_congr_left fun p hp => ?_
    simp only [wd_wo]
    rw [h p (by simpa using hp)]
  rw [e1]
  refine (sum_sk (y := y) (fun q => if av q = true then wd N q else 0) _).trans ?_
  have e3 : ∀ k, ((List.range k).map fun p => if p = y then (0 : Int) else (fun q => if av q = true then wd N q else 0) p) = (List.range k).map fun p => if av p = true then wd N p else 0 := fun k => by
    refine List.map_congr_left fun p _ => ?_
    by_cases e : p = y
    · subst e; simp [hav]
    · simp [e]
  rw [e3]
  by_cases hle : (woN N y).length ≤ y
  · have e : N.length = (woN N y).length + 1 := hl.symm
    have e4 : (woN N y).length = y := by omega
    rw [if_pos hle, e, List.range_succ, List.map_append, List.sum_append, e4]
    simp [hav]
  · rw [if_neg hle, hl]
theorem sum_split (lv av hl : Nat → Bool) (n : Nat) (h : ∀ p, p < n → (av p = true → lv p = true) ∧ (hl p = true ↔ lv p = true ∧ av p = false)) : sumW N lv n - sumW N av n = sumW N hl n := by
  induction n with
  | zero => simp [sumW]
  | succ n ih =>
    have := ih fun p hp => h p (by omega)
    obtain ⟨h1, h2⟩ := h n (by omega)
    rw [sumW_succ, sumW_succ, sumW_succ, ← this]
    cases e1 : lv n <;> cases e2 : av n <;> cases e3 : hl n <;> simp_all <;> omega
end
/-! ### sums of rising rows -/
theorem sorted_ext : ∀ {l1 l2 : List Nat}, l1.Pairwise (· < ·) → l2.Pairwise (· < ·) → (∀ x, x ∈ l1 ↔ x ∈ l2) → l1 = l2
  | [], [], _, _, _ => rfl
  | [], b :: l2, _, _, h => by have := (h b).2 (by simp); simp at this
  | a :: l1, [], _, _, h => by have := (h a).1 (by simp); simp at this
  | a :: l1, b :: l2, h1, h2, h => by
    rw [List.pairwise_cons] at h1 h2
    have hab : a = b := by
      have ha := (h a).1 (by simp)
      have hb := (h b).2 (by simp)
      rcases List.mem_cons.1 ha with e | e
      · exact e
      · rcases List.mem_cons.1 hb with e2 | e2
        · exact e2.symm
        · have := h2.1 a e; have := h1.1 b e2; omega
    subst hab
    rw [sorted_ext h1.2 h2.2 fun x => ?_]
    have hx := h x
    constructor
    · intro g
      rcases List.mem_cons.1 (hx.1 (by simp [g])) with e | e
      · have := h1.1 x g; omega
      · exact e
    · intro g
      rcases List.mem_cons.1 (hx.2 (by simp [g])) with e | e
      · have := h2.1 x g; omega
      · exact e
theorem sum_filter (f : Nat → Int) (b : Nat → Bool) : ∀ l : List Nat, ((l.filter b).map f).sum = (l.map fun p => if b p then f p else 0).sum
  | [] => rfl
  | a :: l => by
    rw [List.filter_cons]
    cases h : b a <;> simp [h, sum_filter f b l]
theorem sum_rising {N : List NodeA} {l : List Nat} {n : Nat} (hl : l.Pairwise (· < ·)) (b : Nat → Bool) (h : ∀ p, p ∈ l ↔ p < n ∧ b p = true) : (l.map (wd N)).sum = sumW N b n := by
  have e : l = (List.range n).filter b := sorted_ext hl (List.Pairwise.filter _ List.pairwise_lt_range) fun x => by rw [h, List.mem_filter, List.mem_range]
  rw [e, sum_filter]
  rfl
end Go.AM.G


set_option maxRecDepth 100000
namespace Go.AM.G
open Go Go.AM
theorem rest_spec {m : Mem} {v : V} {l : List Int} {Yb : Nat} {own : Bool} {y : Int} (hY : m[Yb]? = some (.cells own [[.int .i64 y]])) (h0 : 0 ≤ y) (hv : SlR m v 1 (i64s l)) (hl : l.length ≤ 5000) (hb : ∀ x, x ∈ l → x < 5000) :
    C S n_graph_Without_1 [v, .ptr Yb 0 0] m (fun r m' => Grow m m' ∧ GS m.length m' r 1 (i64s (restI y l))) := by
  refine C_body rfl rfl rfl ?_
  unfold graph_Without_1
  have hlen : (i64s l).length = l.length := by simp
  simp (maxDischargeDepth := 30) only [hv.len, hlen, amL, args0, Nat.reduceEqDiff, reduceCtorEq, ↓reduceIte, Nat.reduceAdd, resultsA, results1, Int.reduceNeg, splice, Nat.reduceLeDiff, part, fillA, fillE, Nat.reduceLT]
  let I := fun (k : Nat) (fr : Frame) (M : Mem) => ∃ (i : Nat) (u : V), i ≤ l.length ∧ k = l.length - i ∧ fr 1 = .ptr Yb 0 0 ∧ fr 4 = u ∧ fr 7 = v ∧ fr 8 = .int .i64 l.length ∧ fr 9 = .int .i64 (i : Nat) ∧ Grow m M ∧ GS m.length M u 1 (i64s (restI y (l.take i)))
  refine W_loop I ?_ l.length ?_
  · rintro k fr M ⟨i, u, hi, rfl, f1, f4, f7, f8, f9, hg, hgs⟩
    unfold graph_Without_1_l0
    simp (maxDischargeDepth := 30) only [f1, f4, f7, f8, f9, amL, args0, Nat.reduceEqDiff, reduceCtorEq, ↓reduceIte, Nat.reduceAdd, resultsA, results1, Int.reduceNeg, splice, Nat.reduceLeDiff, part, fillA, fillE, Nat.reduceLT]
    by_cases hil : i < l.length
    · have hil' : (i : Int) < l.length := by omega
      obtain ⟨x, hx⟩ : ∃ x, l[i]? = some x := ⟨_, List.getElem?_eq_getElem hil⟩
      have hxb := hb x (List.mem_of_getElem? hx)
      have hvM := hv.grow hg
      have ix := hvM.index (ki := .i64) (n := i) (by omega) (by omega)
      have ld := fun o j => hvM.load (o := o) (k := j) (i64s_get hx)
      simp only [Int.toNat_natCast] at ix ld
      have lY := fun k => load_at0 (k := k) (j := 0) (hg.get hY)
      have wi : IntKind.i64.wrap ((i : Int) + 1) = ((i + 1 : Nat) : Int) := by rw [wrap_i64] <;> omega
      have hrs := restI_succ (y := y) hx
      have hrl : (restI y (l.take i)).length ≤ i := by
        have := restI_len (y := y) (l := l.take i)
        simp at this; omega
      have hml := hg.len
      have hpush := fun z : Int => (hgs.app (g := [Blk.cells true [[V.int .i64 z]]])).push (T := M.length) (own := true) (x := [V.int .i64 z]) (zero := [.int .i64 0]) (bytes := 8) rfl (by simp) (by simp [roomy]; omega) (by simp; omega)
      by_cases h1 : x < y
      · rw [if_pos h1] at hrs
        obtain ⟨u', M', p1, p2, p3, p4, p5⟩ := hpush x
        simp (maxDischargeDepth := 30) only [hil', f1, f4, f7, f8, f9, ix, ld, lY, h1, amL, args0, Nat.reduceEqDiff, reduceCtorEq, ↓reduceIte, Nat.reduceAdd, resultsA, results1, Int.reduceNeg, splice, Nat.reduceLeDiff, part, fillA, fillE, Nat.reduceLT]
        refine ⟨_, _, p1, ?_⟩
        simp (maxDischargeDepth := 30) only [f1, f7, f8, f9, wi, amL, args0, Nat.reduceEqDiff, reduceCtorEq, ↓reduceIte, Nat.reduceAdd, resultsA, results1, Int.reduceNeg, splice, Nat.reduceLeDiff, part, fillA, fillE, Nat.reduceLT]
        refine ⟨_, ?_, i + 1, u', by omega, rfl, by simp (maxDischargeDepth := 30) only [f1, amL, args0, Nat.reduceEqDiff, reduceCtorEq, ↓reduceIte, Nat.reduceAdd, resultsA, results1, Int.reduceNeg, splice, Nat.reduceLeDiff, part, fillA, fillE, Nat.reduceLT], by simp (maxDischargeDepth := 30) only [amL, args0, Nat.reduceEqDiff, reduceCtorEq, ↓reduceIte, Nat.reduceAdd, resultsA, results1, Int.reduceNeg, splice, Nat.reduceLeDiff, part, fillA, fillE, Nat.reduceLT], by simp (maxDischargeDepth := 30) only [f7, amL, args0, Nat.reduceEqDiff, reduceCtorEq, ↓reduceIte, Nat.reduceAdd, resultsA, results1, Int.reduceNeg, splice, Nat.reduceLeDiff, part, fillA, fillE, Nat.reduceLT], by simp (maxDischargeDepth := 30) only [f8, amL, args0, Nat.reduceEqDiff, reduceCtorEq, ↓reduceIte, Nat.reduceAdd, resultsA, results1, Int.reduceNeg, splice, Nat.reduceLeDiff, part, fillA, fillE, Nat.reduceLT], by simp (maxDischargeDepth := 30) only [amL, args0, Nat.reduceEqDiff, reduceCtorEq, ↓reduceIte, Nat.reduceAdd, resultsA, results1, Int.reduceNeg, splice, Nat.reduceLeDiff, part, fillA, fillE, Nat.reduceLT], Grow.keep' hg.app fun c y hc hy => p3 c y (fun e => by have := (hgs.blk e).1; omega) hy, ?_⟩
        · omega
        · rw [hrs]
          have : i64s (restI y (l.take i) ++ [x]) = i64s (restI y (l.take i)) ++ [[V.int .i64 x]] := by simp
          rw [this]; exact p2
      · rw [if_neg h1] at hrs
        by_cases h2 : y < x
        · rw [if_pos h2] at hrs
          have wx : IntKind.i64.wrap (x - 1) = x - 1 := by rw [wrap_i64] <;> omega
          obtain ⟨u', M', p1, p2, p3, p4, p5⟩ := hpush (x - 1)
          simp (maxDischargeDepth := 30) only [hil', f1, f4, f7, f8, f9, ix, ld, lY, h1, h2, wx, amL, args0, Nat.reduceEqDiff, reduceCtorEq, ↓reduceIte, Nat.reduceAdd, resultsA, results1, Int.reduceNeg, splice, Nat.reduceLeDiff, part, fillA, fillE, Nat.reduceLT]
          refine ⟨_, _, p1, ?_⟩
          simp (maxDischargeDepth := 30) only [f1, f7, f8, f9, wi, amL, args0, Nat.reduceEqDiff, reduceCtorEq, ↓reduceIte, Nat.reduceAdd, resultsA, results1, Int.reduceNeg, splice, Nat.reduceLeDiff, part, fillA, fillE, Nat.reduceLT]
          refine ⟨_, ?_, i + 1, u', by omega, rfl, by simp (maxDischargeDepth := 30) only [f1, amL, args0, Nat.reduceEqDiff, reduceCtorEq, ↓reduceIte, Nat.reduceAdd, resultsA, results1, Int.reduceNeg, splice, Nat.reduceLeDiff, part, fillA, fillE, Nat.reduceLT], by simp (maxDischargeDepth := 30) only [amL, args0, Nat.reduceEqDiff, reduceCtorEq, ↓reduceIte, Nat.reduceAdd, resultsA, results1, Int.reduceNeg, splice, Nat.reduceLeDiff, part, fillA, fillE, Nat.reduceLT], by simp (maxDischargeDepth := 30) only [f7, amL, args0, Nat.reduceEqDiff, reduceCtorEq, ↓reduceIte, Nat.reduceAdd, resultsA, results1, Int.reduceNeg, splice, Nat.reduceLeDiff, part, fillA, fillE, Nat.reduceLT], by simp (maxDischargeDepth := 30) only [f8, amL, args0, Nat.reduceEqDiff, reduceCtorEq, ↓reduceIte, Nat.reduceAdd, resultsA, results1, Int.reduceNeg, splice, Nat.reduceLeDiff, part, fillA, fillE, Nat.reduceLT], by simp (maxDischargeDepth := 30) only [amL, args0, Nat.reduceEqDiff, reduceCtorEq, ↓reduceIte, Nat.reduceAdd, resultsA, results1, Int.reduceNeg, splice, Nat.reduceLeDiff, part, fillA, fillE, Nat.reduceLT], Grow.keep' hg.app fun c y hc hy => p3 c y (fun e => by have := (hgs.blk e).1; omega) hy, ?_⟩
          · omega
          · rw [hrs]
            have : i64s (restI y (l.take i) ++ [x - 1]) = i64s (restI y (l.take i)) ++ [[V.int .i64 (x - 1)]] := by simp
            rw [this]; exact p2
        · rw [if_neg h2, List.append_nil] at hrs
          simp (maxDischargeDepth := 30) only [hil', f1, f4, f7, f8, f9, ix, ld, lY, h1, h2, wi, amL, args0, Nat.reduceEqDiff, reduceCtorEq, ↓reduceIte, Nat.reduceAdd, resultsA, results1, Int.reduceNeg, splice, Nat.reduceLeDiff, part, fillA, fillE, Nat.reduceLT]
          refine ⟨_, ?_, i + 1, u, by omega, rfl, by simp (maxDischargeDepth := 30) only [f1, amL, args0, Nat.reduceEqDiff, reduceCtorEq, ↓reduceIte, Nat.reduceAdd, resultsA, results1, Int.reduceNeg, splice, Nat.reduceLeDiff, part, fillA, fillE, Nat.reduceLT], by simp (maxDischargeDepth := 30) only [f4, amL, args0, Nat.reduceEqDiff, reduceCtorEq, ↓reduceIte, Nat.reduceAdd, resultsA, results1, Int.reduceNeg, splice, Nat.reduceLeDiff, part, fillA, fillE, Nat.reduceLT], by simp (maxDischargeDepth := 30) only [f7, amL, args0, Nat.reduceEqDiff, reduceCtorEq, ↓reduceIte, Nat.reduceAdd, resultsA, results1, Int.reduceNeg, splice, Nat.reduceLeDiff, part, fillA, fillE, Nat.reduceLT], by simp (maxDischargeDepth := 30) only [f8, amL, args0, Nat.reduceEqDiff, reduceCtorEq, ↓reduceIte, Nat.reduceAdd, resultsA, results1, Int.reduceNeg, splice, Nat.reduceLeDiff, part, fillA, fillE, Nat.reduceLT], by simp (maxDischargeDepth := 30) only [amL, args0, Nat.reduceEqDiff, reduceCtorEq, ↓reduceIte, Nat.reduceAdd, resultsA, results1, Int.reduceNeg, splice, Nat.reduceLeDiff, part, fillA, fillE, Nat.reduceLT], hg, by rw [hrs]; exact hgs⟩
          omega
    · have hil' : ¬ (i : Int) < l.length := by omega
      have hie : i = l.length := by omega
      rw [hie, List.take_length] at hgs
      simp (maxDischargeDepth := 30) only [hil', f1, f4, f7, f8, f9, amL, args0, Nat.reduceEqDiff, reduceCtorEq, ↓reduceIte, Nat.reduceAdd, resultsA, results1, Int.reduceNeg, splice, Nat.reduceLeDiff, part, fillA, fillE, Nat.reduceLT]
      exact ⟨hg, hgs⟩
  · exact ⟨0, .nils, Nat.zero_le _, rfl, by simp (maxDischargeDepth := 30) only [amL, args0, Nat.reduceEqDiff, reduceCtorEq, ↓reduceIte, Nat.reduceAdd, resultsA, results1, Int.reduceNeg, splice, Nat.reduceLeDiff, part, fillA, fillE, Nat.reduceLT], by simp (maxDischargeDepth := 30) only [amL, args0, Nat.reduceEqDiff, reduceCtorEq, ↓reduceIte, Nat.reduceAdd, resultsA, results1, Int.reduceNeg, splice, Nat.reduceLeDiff, part, fillA, fillE, Nat.reduceLT], by simp (maxDischargeDepth := 30) only [amL, args0, Nat.reduceEqDiff, reduceCtorEq, ↓reduceIte, Nat.reduceAdd, resultsA, results1, Int.reduceNeg, splice, Nat.reduceLeDiff, part, fillA, fillE, Nat.reduceLT], by simp (maxDischargeDepth := 30) only [amL, args0, Nat.reduceEqDiff, reduceCtorEq, ↓reduceIte, Nat.reduceAdd, resultsA, results1, Int.reduceNeg, splice, Nat.reduceLeDiff, part, fillA, fillE, Nat.reduceLT], by simp (maxDischargeDepth := 30) only [amL, args0, Nat.reduceEqDiff, reduceCtorEq, ↓reduceIte, Nat.reduceAdd, resultsA, results1, Int.reduceNeg, splice, Nat.reduceLeDiff, part, fillA, fillE, Nat.reduceLT]; rfl, Grow.refl _, .inl ⟨rfl, by simp [restI]⟩⟩
theorem GS.weaken {B B' z : Nat} {M : Mem} {u : V} {L : List (List V)} (h : GS B M u z L) (hB : B' ≤ B) : GS B' M u z L := by
  rcases h with h | ⟨b, ex, els, h1, h2⟩
  · exact .inl h
  · exact .inr ⟨b, ex, els, by omega, h2⟩
theorem erase_take {α : Type} {l : List α} {i y : Nat} {x : α} (h : l[i]? = some x) : (l.take (i + 1)).eraseIdx y = if i = y then (l.take i).eraseIdx y else (l.take i).eraseIdx y ++ [x] := by
  obtain ⟨h1, h2⟩ := List.getElem?_eq_some_iff.1 h
  rw [List.take_succ_eq_append_getElem h1, h2]
  have hl : (l.take i).length = i := by simp; omega
  by_cases e : i = y
  · subst e
    have e1 : (l.take i).eraseIdx i = l.take i := List.eraseIdx_of_length_le (by omega)
    rw [if_pos rfl, List.eraseIdx_append_of_length_le (by omega), hl, e1]
    simp
  · rw [if_neg e]
    by_cases h3 : i < y
    · rw [List.eraseIdx_of_length_le (by simp; omega), List.eraseIdx_of_length_le (by omega)]
    · rw [List.eraseIdx_append_of_lt_length (by omega)]
/-- nodes that were put into the new graph. -/
def WoE (B : Nat) (M : Mem) (uN : V) (els : List (List V)) (N' : List NodeA) : Prop := GS B M uN 3 els ∧ els.length = N'.length ∧ ∀ (j : Nat) (nd : NodeA), N'[j]? = some nd → ∃ tv, els[j]? = some [.int .u64 nd.addr, .int .i64 nd.words, tv] ∧ GS B M tv 1 (i64s nd.to) ∧ ∀ c, blkOf tv = some c → blkOf uN ≠ some c
theorem WoE.keep {B : Nat} {M M' : Mem} {uN : V} {els : List (List V)} {N' : List NodeA} (h : WoE B M uN els N') (hk : ∀ c y, B ≤ c → M[c]? = some y → M'[c]? = some y) : WoE B M' uN els N' := by
  obtain ⟨h1, h2, h3⟩ := h
  refine ⟨h1.keep fun c y hc hy => hk c y (h1.blk hc).1 hy, h2, fun j nd hj => ?_⟩
  obtain ⟨tv, a, b, c⟩ := h3 j nd hj
  exact ⟨tv, a, b.keep fun x y hx hy => hk x y (b.blk hx).1 hy, c⟩
theorem WoE.gr {B : Nat} {M : Mem} {uN rv : V} {els : List (List V)} {N' : List NodeA} {R' : List Int} (h : WoE B M uN els N') (hr : Sl M rv 1 (i64s R')) : Gr M uN rv N' R' := by
  obtain ⟨h1, h2, h3⟩ := h
  refine ⟨hr, els, h1.sl, h2, fun j nd hj => ?_⟩
  obtain ⟨tv, a, b, _⟩ := h3 j nd hj
  exact ⟨tv, a, .inl b.sl⟩
theorem Without_spec {m : Mem} {nv rv : V} {N : List NodeA} {R : List Int} (hG : Gr m nv rv N R) (hf : Fits N R) (x : Int) : C S n_graph_Without [.agg [nv, rv], .int .i64 x] m (fun r m' => Grow m m' ∧ if validG N R = true then (if x < 0 ∨ (N.length : Int) ≤ x then r = .tup [.agg [.nils, .nils], .int .i64 1] else ∃ nv' rv', r = .tup [.agg [nv', rv'], .int .i64 0] ∧ Gr m' nv' rv' (woN N x.toNat) (restI x R)) else r = .tup [.agg [.nils, .nils], .int .i64 2]) := by
  refine C_body rfl rfl rfl ?_
  unfold graph_Without
  obtain ⟨hc1, hc2⟩ := hG.cells
  have r0 : List.replicate 0 Blk.dead = [] := rfl
  have hL1 : (m ++ [Blk.cells true [[nv, rv]]]).length = m.length + 1 := by simp
  have hL2 : (m ++ [Blk.cells true [[nv, rv]]] ++ [Blk.cells true [[V.int .i64 x]]]).length = m.length + 2 := by simp
  have ldX : loadV (m ++ [Blk.cells true [[nv, rv]]] ++ [Blk.cells true [[V.int .i64 x]]] ++ [Blk.cells true [[V.nils, V.nils]]]) none (.ptr (m.length + 1) 0 0) = some (.int .i64 x) := by
    rw [load_at0 (own := true) (el := [V.int .i64 x]) (by rw [List.getElem?_append_left (by simp), ← hL1, List.getElem?_concat_length])]
    rfl
  have ldM : ∀ j, loadV (m ++ [Blk.cells true [[nv, rv]]] ++ [Blk.cells true [[V.int .i64 x]]] ++ [Blk.cells true [[V.nils, V.nils]]]) (some 2) (.ptr m.length 0 j) = part [nv, rv] j (some 2) := fun j => load_at0 (own := true) (by simp)
  simp (maxDischargeDepth := 30) only [hc1, hc2, hL1, hL2, ldX, ldM, amL, args0, Nat.reduceEqDiff, reduceCtorEq, ↓reduceIte, Nat.reduceAdd, resultsA, results1, Int.reduceNeg, splice, Nat.reduceLeDiff, part, fillA, fillE, Nat.reduceLT]
  refine (there_spec (hG.grow ((Grow.refl _).app.app.app)) hf x).mono ?_
  rintro _ M1 ⟨hg1, rfl⟩
  have hgm1 : Grow m M1 := (Grow.refl m).app.app.app.trans hg1
  have hT1 : M1[m.length]? = some (.cells true [[nv, rv]]) := hg1.get (by simp)
  have hY1 : M1[m.length + 1]? = some (.cells true [[.int .i64 x]]) := hg1.get (by rw [List.getElem?_append_left (by simp), ← hL1, List.getElem?_concat_length])
  have hO1 : M1[m.length + 2]? = some (.cells true [[.nils, .nils]]) := hg1.get (by rw [← hL2, List.getElem?_concat_length])
  have ldT1 := fun j k => load_at0 (k := k) (j := j) hT1
  have stO := store_at0 (x := .agg [.nils, .nils]) (j := 0) (n := 2) hO1 rfl (by simp) rfl
  have e0 : splice [V.nils, V.nils] 0 (V.agg [V.nils, V.nils]).cells = [V.nils, V.nils] := rfl
  rw [e0] at stO
  have hlO : m.length + 2 < M1.length := (List.getElem?_eq_some_iff.1 hO1).1
  have ldO : ∀ k, loadV (M1.set (m.length + 2) (.cells true [[V.nils, V.nils]])) k (.ptr (m.length + 2) 0 0) = part [V.nils, V.nils] 0 k := fun k => load_set0 hlO
  have pO : part [V.nils, V.nils] 0 (some 2) = some (.agg [.nils, .nils]) := rfl
  cases hval : validG N R with
  | false =>
    have c2 : ¬ (2 : Int) = 0 := by decide
    simp (maxDischargeDepth := 30) only [aft_mk, c2, Bool.false_eq_true, stO, ldO, pO, r0, List.append_nil, amL, args0, Nat.reduceEqDiff, reduceCtorEq, ↓reduceIte, Nat.reduceAdd, resultsA, results1, Int.reduceNeg, splice, Nat.reduceLeDiff, part, fillA, fillE, Nat.reduceLT]
    exact hgm1.set (by omega) _
  | true =>
    by_cases hx : x < 0 ∨ (N.length : Int) ≤ x
    · have c1 : ¬ (1 : Int) = 0 := by decide
      simp (maxDischargeDepth := 30) only [aft_mk, hx, c1, stO, ldO, pO, r0, List.append_nil, amL, args0, Nat.reduceEqDiff, reduceCtorEq, ↓reduceIte, Nat.reduceAdd, resultsA, results1, Int.reduceNeg, splice, Nat.reduceLeDiff, part, fillA, fillE, Nat.reduceLT]
      exact hgm1.set (by omega) _
    obtain ⟨y, rfl⟩ : ∃ y : Nat, x = y := ⟨x.toNat, by omega⟩
    have hyn : y < N.length := by omega
    obtain ⟨hn, hto, hlt, hR, hRl, _⟩ := valid_to hval
    have c00 : ¬ ¬ (0 : Int) = 0 := by omega
    have hRb : ∀ z, z ∈ R → z < 5000 := fun z hz => by
      rw [hR] at hz
      obtain ⟨b, hb, rfl⟩ := List.mem_map.1 hz
      have := hRl b hb; omega
    have hRn : R.length ≤ 5000 := by
      have h1 : (rootsN R).length ≤ N.length := sorted_len (validG_roots hval) hRl
      simp [rootsN] at h1; omega
    simp (maxDischargeDepth := 30) only [aft_mk, hx, c00, ldT1, hc2, amL, args0, Nat.reduceEqDiff, reduceCtorEq, ↓reduceIte, Nat.reduceAdd, resultsA, results1, Int.reduceNeg, splice, Nat.reduceLeDiff, part, fillA, fillE, Nat.reduceLT]
    refine (rest_spec (y := y) hY1 (by omega) (.inl (hG.grow hgm1).1) hRn hRb).mono ?_
    rintro rv' M2 ⟨hg2, hrv'⟩
    have hgm2 := hgm1.trans hg2
    have hrc := hrv'.sl.cell
    have hrcl := cells_cell hrc
    obtain ⟨_, els0, hne0, hel0, _⟩ := hG.grow (hgm2.app (g := [Blk.cells true [[V.nils, rv']]]))
    have ldT2 : ∀ j k, loadV (M2 ++ [Blk.cells true [[V.nils, rv']]]) k (.ptr m.length 0 j) = part [nv, rv] j k := fun j k => load_at0 (getElem?_grow (hg2.get hT1))
    have hb2 : part [V.nils, rv'] 0 (some 2) = some (.agg [.nils, rv']) := rfl
    simp (maxDischargeDepth := 30) only [aft_mk, hrc, hrcl, ldT2, hne0.len, hel0, amL, args0, Nat.reduceEqDiff, reduceCtorEq, ↓reduceIte, Nat.reduceAdd, resultsA, results1, Int.reduceNeg, splice, Nat.reduceLeDiff, part, fillA, fillE, Nat.reduceLT]
    let fnV : V := .fn n_graph_Without_1 [] [.ptr (m.length + 1) 0 0]
    have hm2 : m.length + 2 < M2.length := Nat.lt_of_lt_of_le hlO hg2.len
    let I := fun (k : Nat) (fr : Frame) (M : Mem) => ∃ (i : Nat) (uN : V) (els : List (List V)), i ≤ N.length ∧ k = N.length - i ∧ fr 3 = .ptr (m.length + 1) 0 0 ∧ fr 4 = .ptr (m.length + 2) 0 0 ∧ fr 7 = fnV ∧ fr 8 = .ptr M2.length 0 0 ∧ fr 25 = nv ∧ fr 26 = .int .i64 N.length ∧ fr 27 = .int .i64 (i : Nat) ∧ Grow M2 M ∧ M[M2.length]? = some (.cells true [[uN, rv']]) ∧ WoE (M2.length + 1) M uN els (((N.take i).eraseIdx y).map (woA y))
    refine W_loop I ?_ N.length ?_
    · rintro k fr M ⟨i, uN, els, hi, rfl, f3, f4, f7, f8, f25, f26, f27, hg, hP, hW⟩
      unfold graph_Without_l0
      have hMl : M2.length < M.length := (List.getElem?_eq_some_iff.1 hP).1
      simp (maxDischargeDepth := 30) only [f3, f4, f7, f8, f25, f26, f27, amL, args0, Nat.reduceEqDiff, reduceCtorEq, ↓reduceIte, Nat.reduceAdd, resultsA, results1, Int.reduceNeg, splice, Nat.reduceLeDiff, part, fillA, fillE, Nat.reduceLT]
      by_cases hil : i < N.length
      · have hil' : (i : Int) < N.length := by omega
        obtain ⟨nd, hnd⟩ : ∃ nd, N[i]? = some nd := ⟨_, List.getElem?_eq_getElem hil⟩
        have hgm := hgm2.trans hg
        obtain ⟨_, elsN, hne, hel, hnds⟩ := hG.grow hgm
        obtain ⟨tv, hte, htv⟩ := hnds i nd hnd
        have htc := htv.cell
        have ixn := hne.index (ki := .i64) (n := i) (by omega) (by omega)
        have ldn := fun o k => hne.load (o := o) (k := k) hte
        simp only [Int.toNat_natCast] at ixn
        have wi : IntKind.i64.wrap ((i : Int) + 1) = ((i + 1 : Nat) : Int) := by rw [wrap_i64] <;> omega
        have hY := (hg2.trans hg).get hY1
        have ldY : ∀ g : Mem, ∀ k, loadV (M ++ g) k (.ptr (m.length + 1) 0 0) = part [V.int .i64 y] 0 k := fun g k => load_at0 (getElem?_grow hY)
        have her := erase_take (y := y) hnd
        by_cases hiy : (i : Int) = y
        · have hiy' : i = y := by omega
          rw [if_pos hiy'] at her
          have c1 : ¬ ¬ (i : Int) = y := fun e => e hiy
          simp (maxDischargeDepth := 30) only [hil', f3, f4, f7, f8, f25, f26, f27, ixn, ldn, htc, ldY, c1, wi, amL, args0, Nat.reduceEqDiff, reduceCtorEq, ↓reduceIte, Nat.reduceAdd, resultsA, results1, Int.reduceNeg, splice, Nat.reduceLeDiff, part, fillA, fillE, Nat.reduceLT]
          refine ⟨_, ?_, i + 1, uN, els, by omega, rfl, by simp (maxDischargeDepth := 30) only [f3, amL, args0, Nat.reduceEqDiff, reduceCtorEq, ↓reduceIte, Nat.reduceAdd, resultsA, results1, Int.reduceNeg, splice, Nat.reduceLeDiff, part, fillA, fillE, Nat.reduceLT], by simp (maxDischargeDepth := 30) only [f4, amL, args0, Nat.reduceEqDiff, reduceCtorEq, ↓reduceIte, Nat.reduceAdd, resultsA, results1, Int.reduceNeg, splice, Nat.reduceLeDiff, part, fillA, fillE, Nat.reduceLT], by simp (maxDischargeDepth := 30) only [f7, amL, args0, Nat.reduceEqDiff, reduceCtorEq, ↓reduceIte, Nat.reduceAdd, resultsA, results1, Int.reduceNeg, splice, Nat.reduceLeDiff, part, fillA, fillE, Nat.reduceLT], by simp (maxDischargeDepth := 30) only [f8, amL, args0, Nat.reduceEqDiff, reduceCtorEq, ↓reduceIte, Nat.reduceAdd, resultsA, results1, Int.reduceNeg, splice, Nat.reduceLeDiff, part, fillA, fillE, Nat.reduceLT], by simp (maxDischargeDepth := 30) only [f25, amL, args0, Nat.reduceEqDiff, reduceCtorEq, ↓reduceIte, Nat.reduceAdd, resultsA, results1, Int.reduceNeg, splice, Nat.reduceLeDiff, part, fillA, fillE, Nat.reduceLT], by simp (maxDischargeDepth := 30) only [f26, amL, args0, Nat.reduceEqDiff, reduceCtorEq, ↓reduceIte, Nat.reduceAdd, resultsA, results1, Int.reduceNeg, splice, Nat.reduceLeDiff, part, fillA, fillE, Nat.reduceLT], by simp (maxDischargeDepth := 30) only [amL, args0, Nat.reduceEqDiff, reduceCtorEq, ↓reduceIte, Nat.reduceAdd, resultsA, results1, Int.reduceNeg, splice, Nat.reduceLeDiff, part, fillA, fillE, Nat.reduceLT], hg.app, getElem?_grow hP, ?_⟩
          · omega
          · rw [her]; exact hW.keep fun c z _ hz => getElem?_grow hz
        · have hiy' : ¬ i = y := by omega
          rw [if_neg hiy'] at her
          have ldP : ∀ g : Mem, ∀ j k, loadV (M ++ g) k (.ptr M2.length 0 j) = part [uN, rv'] j k := fun g j k => load_at0 (getElem?_grow hP)
          have ldP2 : ∀ g g2 : Mem, ∀ j k, loadV (M ++ g ++ g2) k (.ptr M2.length 0 j) = part [uN, rv'] j k := fun g g2 j k => load_at0 (getElem?_grow (getElem?_grow hP))
          have ldX2 : ∀ g2 : Mem, ∀ j k, loadV (M ++ [Blk.cells true [[V.int .u64 nd.addr, V.int .i64 nd.words, tv]]] ++ g2) k (.ptr M.length 0 j) = part [V.int .u64 nd.addr, V.int .i64 nd.words, tv] j k := fun g2 j k => load_at0 (own := true) (getElem?_grow (by simp))
          simp (maxDischargeDepth := 30) only [hil', f3, f4, f7, f8, f25, f26, f27, ixn, ldn, htc, ldY, hiy, ldP, ldP2, ldX2, amL, args0, Nat.reduceEqDiff, reduceCtorEq, ↓reduceIte, Nat.reduceAdd, resultsA, results1, Int.reduceNeg, splice, Nat.reduceLeDiff, part, fillA, fillE, Nat.reduceLT]
          show C S n_graph_Without_1 [tv, .ptr (m.length + 1) 0 0] _ _
          have hr1 : List.replicate 1 Blk.dead = [Blk.dead] := rfl
          rw [hr1]
          generalize hM5 : M ++ [Blk.cells true [[V.int .u64 nd.addr, V.int .i64 nd.words, tv]]] = M5
          have hM5l : M5.length = M.length + 1 := by rw [← hM5]; simp
          have hg5 : Grow M M5 := by rw [← hM5]; exact (Grow.refl _).app
          have hX5 : M5[M.length]? = some (.cells true [[V.int .u64 nd.addr, V.int .i64 nd.words, tv]]) := by rw [← hM5]; simp
          have hto' := hto i nd hnd
          have hb : ∀ z, z ∈ nd.to → z < 5000 := fun z hz => by
            rw [hto'] at hz
            obtain ⟨b, hb, rfl⟩ := List.mem_map.1 hz
            have := hlt i b hb; omega
          have hl5 : nd.to.length ≤ 5000 := by
            have h1 : (toN N i).length ≤ N.length := sorted_len (‹∀ p, (toN N p).Pairwise (· < ·)› i) (fun z hz => hlt i z hz)
            rw [hto']; simp; omega
          refine (rest_spec (y := y) (getElem?_grow (hg5.get hY)) (by omega) (htv.grow (hg5.app (g := [Blk.dead]))) hl5 hb).mono ?_
          rintro tv' M6 ⟨hg6, htv'⟩
          have hdl : (M5 ++ [Blk.dead]).length = M5.length + 1 := by simp
          rw [hdl] at htv'
          have hg56 : Grow M5 M6 := (Grow.refl M5).app.trans hg6
          have hd6 : M6[M5.length]? = some .dead := hg6.get (by simp)
          have hP6 : M6[M2.length]? = some (.cells true [[uN, rv']]) := (hg5.trans hg56).get hP
          have hX6 := hg56.get hX5
          have lP6 := fun j k => load_at0 (k := k) (j := j) hP6
          have lX6 := fun j k => load_at0 (k := k) (j := j) hX6
          have hbu : V.beq uN uN = true := by
            rcases hW.1 with ⟨rfl, _⟩ | ⟨b, ex, els', _, rfl, _⟩
            · rfl
            · simp [V.beq]
          rw [aftC_mk]
          refine ⟨?_, ?_⟩
          · simp [chkOk, wantedA, Arg.get, put, lP6, lX6, part, hbu, V.beq]
          have htc' := htv'.sl.cell
          have htcl' := cells_cell htc'
          have hW5 : WoE (M2.length + 1) M5 uN els (((N.take i).eraseIdx y).map (woA y)) := hW.keep fun c z _ hz => hg5.get hz
          have hW6 : WoE (M2.length + 1) M6 uN els (((N.take i).eraseIdx y).map (woA y)) := hW5.keep fun c z _ hz => hg56.get hz
          simp (maxDischargeDepth := 30) only [hM5l, htcl', htc', hd6, f3, f4, f7, f8, f25, f26, f27, amL, args0, Nat.reduceEqDiff, reduceCtorEq, ↓reduceIte, Nat.reduceAdd, resultsA, results1, Int.reduceNeg, splice, Nat.reduceLeDiff, part, fillA, fillE, Nat.reduceLT]
          refine ⟨by rw [← hM5l]; exact hd6, ?_⟩
          have hM6l : M5.length + 1 ≤ M6.length := by have := hg6.len; simp at this; omega
          have hW7 : WoE (M2.length + 1) (M6.set (M.length + 1) (.cells true [[V.int .u64 nd.addr, V.int .i64 nd.words, tv']])) uN els (((N.take i).eraseIdx y).map (woA y)) := hW5.keep fun c z _ hz => set_get (by have := (List.getElem?_eq_some_iff.1 hz).1; omega) (hg56.get hz)
          have htv7 : GS (M5.length + 1) (M6.set (M.length + 1) (.cells true [[V.int .u64 nd.addr, V.int .i64 nd.words, tv']])) tv' 1 (i64s (restI y nd.to)) := htv'.keep fun c z hc hz => set_get (by have := (htv'.blk hc).1; omega) hz
          have hT7 : (M6.set (M.length + 1) (.cells true [[V.int .u64 nd.addr, V.int .i64 nd.words, tv']]))[M.length + 1]? = some (.cells true [[V.int .u64 nd.addr, V.int .i64 nd.words, tv']]) := List.getElem?_set_self (by omega)
          have hP7 : (M6.set (M.length + 1) (.cells true [[V.int .u64 nd.addr, V.int .i64 nd.words, tv']]))[M2.length]? = some (.cells true [[uN, rv']]) := set_get (by omega) hP6
          have hg7 : Grow M2 (M6.set (M.length + 1) (.cells true [[V.int .u64 nd.addr, V.int .i64 nd.words, tv']])) := ((hg.trans hg5).trans hg56).set (by omega) _
          have hl7 : (M6.set (M.length + 1) (.cells true [[V.int .u64 nd.addr, V.int .i64 nd.words, tv']])).length = M6.length := by simp
          generalize M6.set (M.length + 1) (.cells true [[V.int .u64 nd.addr, V.int .i64 nd.words, tv']]) = M7 at *
          obtain ⟨w1, w2, w3⟩ := hW7
          have hel2 : els.length ≤ N.length := by
            rw [w2]
            have : ((N.take i).eraseIdx y).length ≤ (N.take i).length := List.length_eraseIdx_le _ _
            simp at this ⊢; omega
          obtain ⟨uN', M8, p1, p2, p3, p4, p5⟩ := w1.push (T := M.length + 1) (own := true) (x := [V.int .u64 nd.addr, V.int .i64 nd.words, tv']) (zero := [.int .u64 0, .int .i64 0, .nils]) (bytes := 40) rfl hT7 (by simp [roomy]; omega) (by omega)
          have huB : ∀ c, blkOf uN = some c → M2.length + 1 ≤ c ∧ c < M5.length := fun c hc => ⟨(w1.blk hc).1, (hW5.1.blk hc).2⟩
          have hP8 : M8[M2.length]? = some (.cells true [[uN, rv']]) := p3 _ _ (fun e => by have := (huB _ e).1; omega) hP7
          have huc := p2.sl.cell
          have st8 := store_at0 (x := uN') (j := 0) (n := 1) hP8 (by rw [cells_cell huc]; rfl) (by simp) (by rw [cells_cell huc]; simp [huc])
          have e8 : splice [uN, rv'] 0 uN'.cells = [uN', rv'] := by rw [cells_cell huc]; rfl
          rw [e8] at st8
          refine ⟨_, _, p1, _, st8, ?_⟩
          have hwoa : (((N.take (i + 1)).eraseIdx y).map (woA y)) = (((N.take i).eraseIdx y).map (woA y)) ++ [woA y nd] := by rw [her]; simp
          refine ⟨N.length - (i + 1), by omega, i + 1, uN', els ++ [[V.int .u64 nd.addr, V.int .i64 nd.words, tv']], by omega, rfl, by simp (maxDischargeDepth := 30) only [f3, amL, args0, Nat.reduceEqDiff, reduceCtorEq, ↓reduceIte, Nat.reduceAdd, resultsA, results1, Int.reduceNeg, splice, Nat.reduceLeDiff, part, fillA, fillE, Nat.reduceLT], by simp (maxDischargeDepth := 30) only [f4, amL, args0, Nat.reduceEqDiff, reduceCtorEq, ↓reduceIte, Nat.reduceAdd, resultsA, results1, Int.reduceNeg, splice, Nat.reduceLeDiff, part, fillA, fillE, Nat.reduceLT], by simp (maxDischargeDepth := 30) only [f7, amL, args0, Nat.reduceEqDiff, reduceCtorEq, ↓reduceIte, Nat.reduceAdd, resultsA, results1, Int.reduceNeg, splice, Nat.reduceLeDiff, part, fillA, fillE, Nat.reduceLT], by simp (maxDischargeDepth := 30) only [f8, amL, args0, Nat.reduceEqDiff, reduceCtorEq, ↓reduceIte, Nat.reduceAdd, resultsA, results1, Int.reduceNeg, splice, Nat.reduceLeDiff, part, fillA, fillE, Nat.reduceLT], by simp (maxDischargeDepth := 30) only [f25, amL, args0, Nat.reduceEqDiff, reduceCtorEq, ↓reduceIte, Nat.reduceAdd, resultsA, results1, Int.reduceNeg, splice, Nat.reduceLeDiff, part, fillA, fillE, Nat.reduceLT], by simp (maxDischargeDepth := 30) only [f26, amL, args0, Nat.reduceEqDiff, reduceCtorEq, ↓reduceIte, Nat.reduceAdd, resultsA, results1, Int.reduceNeg, splice, Nat.reduceLeDiff, part, fillA, fillE, Nat.reduceLT], by simp (maxDischargeDepth := 30) only [wi, amL, args0, Nat.reduceEqDiff, reduceCtorEq, ↓reduceIte, Nat.reduceAdd, resultsA, results1, Int.reduceNeg, splice, Nat.reduceLeDiff, part, fillA, fillE, Nat.reduceLT], ?_, set_self' hP8, ?_⟩
          · exact (Grow.keep' hg7 fun c z hc hz => p3 c z (fun e => by have := (huB _ e).1; omega) hz).set (Nat.le_refl _) _
          · rw [hwoa]
            have hs8 : ∀ c z, c ≠ M2.length → blkOf uN ≠ some c → M7[c]? = some z → (M8.set M2.length (.cells true [[uN', rv']]))[c]? = some z := fun c z h1 h2 h3 => set_get (Ne.symm h1) (p3 c z h2 h3)
            refine ⟨p2.keep fun c z hc hz => set_get (by have := (p2.blk hc).1; omega) hz, by simp [w2], fun j nd' hj => ?_⟩
            by_cases hjl : j < els.length
            · rw [List.getElem?_append_left (by rw [← w2]; exact hjl)] at hj
              obtain ⟨tvj, b1, b2, b3⟩ := w3 j nd' hj
              refine ⟨tvj, by rw [List.getElem?_append_left hjl]; exact b1, b2.keep fun c z hc hz => hs8 c z (by have := (b2.blk hc).1; omega) (b3 c hc) hz, fun c hc e => ?_⟩
              rcases p4 with e2 | e2
              · rw [e2] at e; exact b3 c hc e
              · rw [e2] at e
                have := (b2.blk hc).2
                simp at e; omega
            · have hje : j = els.length := by
                have := (List.getElem?_eq_some_iff.1 hj).1
                rw [List.length_append, ← w2] at this
                simp at this; omega
              subst hje
              rw [w2, List.getElem?_concat_length] at hj
              simp at hj
              subst hj
              refine ⟨tv', by rw [List.getElem?_concat_length]; rfl, (htv7.keep fun c z hc hz => hs8 c z (by have := (htv7.blk hc).1; omega) (fun e => by have := (huB _ e).2; have := (htv7.blk hc).1; omega) hz).weaken (by omega), fun c hc e => ?_⟩
              have hc2 := htv7.blk hc
              rcases p4 with e2 | e2
              · rw [e2] at e; have := (huB _ e).2; omega
              · rw [e2] at e
                simp at e; omega
      · have hil' : ¬ (i : Int) < N.length := by omega
        have hie : i = N.length := by omega
        subst hie
        rw [List.take_length] at hW
        have hO := (hg2.trans hg).get hO1
        have lP := fun k => load_at0 (k := k) (j := 0) hP
        have huc := hW.1.sl.cell
        have stO2 := store_at0 (x := .agg [uN, rv']) (j := 0) (n := 2) hO rfl (by simp) (by simp [V.cells, huc, hrc])
        have e9 : splice [V.nils, V.nils] 0 (V.agg [uN, rv']).cells = [uN, rv'] := rfl
        rw [e9] at stO2
        have hOl := (List.getElem?_eq_some_iff.1 hO).1
        have ldO2 : ∀ k, loadV (M.set (m.length + 2) (.cells true [[uN, rv']])) k (.ptr (m.length + 2) 0 0) = part [uN, rv'] 0 k := fun k => load_set0 hOl
        have pO2 : part [uN, rv'] 0 (some 2) = some (.agg [uN, rv']) := rfl
        simp (maxDischargeDepth := 30) only [hil', f3, f4, f7, f8, f25, f26, f27, lP, pO2, stO2, ldO2, r0, List.append_nil, amL, args0, Nat.reduceEqDiff, reduceCtorEq, ↓reduceIte, Nat.reduceAdd, resultsA, results1, Int.reduceNeg, splice, Nat.reduceLeDiff, part, fillA, fillE, Nat.reduceLT]
        have hk : ∀ c z, M2.length ≤ c → M[c]? = some z → (M.set (m.length + 2) (.cells true [[uN, rv']]))[c]? = some z := fun c z hc hz => set_get (by omega) hz
        refine ⟨(hgm2.trans hg).set (by omega) _, uN, rv', rfl, (hW.keep fun c z hc hz => hk c z (by omega) hz).gr ?_⟩
        have hrv3 := hrv'.keep (M' := M) fun c z _ hz => hg.get hz
        exact (hrv3.keep fun c z hc hz => set_get (by have := (hrv'.blk hc).1; omega) hz).sl
    · exact ⟨0, .nils, [], Nat.zero_le _, rfl, by simp (maxDischargeDepth := 30) only [amL, args0, Nat.reduceEqDiff, reduceCtorEq, ↓reduceIte, Nat.reduceAdd, resultsA, results1, Int.reduceNeg, splice, Nat.reduceLeDiff, part, fillA, fillE, Nat.reduceLT], by simp (maxDischargeDepth := 30) only [amL, args0, Nat.reduceEqDiff, reduceCtorEq, ↓reduceIte, Nat.reduceAdd, resultsA, results1, Int.reduceNeg, splice, Nat.reduceLeDiff, part, fillA, fillE, Nat.reduceLT], by simp (maxDischargeDepth := 30) only [amL, args0, Nat.reduceEqDiff, reduceCtorEq, ↓reduceIte, Nat.reduceAdd, resultsA, results1, Int.reduceNeg, splice, Nat.reduceLeDiff, part, fillA, fillE, Nat.reduceLT]; rfl, by simp (maxDischargeDepth := 30) only [amL, args0, Nat.reduceEqDiff, reduceCtorEq, ↓reduceIte, Nat.reduceAdd, resultsA, results1, Int.reduceNeg, splice, Nat.reduceLeDiff, part, fillA, fillE, Nat.reduceLT], by simp (maxDischargeDepth := 30) only [amL, args0, Nat.reduceEqDiff, reduceCtorEq, ↓reduceIte, Nat.reduceAdd, resultsA, results1, Int.reduceNeg, splice, Nat.reduceLeDiff, part, fillA, fillE, Nat.reduceLT], by simp (maxDischargeDepth := 30) only [amL, args0, Nat.reduceEqDiff, reduceCtorEq, ↓reduceIte, Nat.reduceAdd, resultsA, results1, Int.reduceNeg, splice, Nat.reduceLeDiff, part, fillA, fillE, Nat.reduceLT], by simp (maxDischargeDepth := 30) only [amL, args0, Nat.reduceEqDiff, reduceCtorEq, ↓reduceIte, Nat.reduceAdd, resultsA, results1, Int.reduceNeg, splice, Nat.reduceLeDiff, part, fillA, fillE, Nat.reduceLT]; rfl, (Grow.refl _).app, by simp, .inl ⟨rfl, rfl⟩, by simp, fun j nd hj => by simp at hj⟩
end Go.AM.G
