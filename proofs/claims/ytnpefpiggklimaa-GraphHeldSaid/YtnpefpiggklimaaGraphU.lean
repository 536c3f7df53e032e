/- The plain law of a graph without a node. -/
import Derived.Test.YtnpefpiggklimaaGraphQ
set_option linter.unusedVariables false
set_option linter.unusedSimpArgs false
namespace Go.AM.G
open Go Go.AM
def restI (y : Int) (l : List Int) : List Int := l.filterMap fun p => if p < y then some p else if y < p then some (p - 1) else none
def woA (y : Int) (x : NodeA) : NodeA := ⟨x.addr, x.words, restI y x.to⟩
def woN (N : List NodeA) (y : Nat) : List NodeA := (N.eraseIdx y).map (woA y)
/-- a place of what is left, where it was. -/
def sk (y p : Nat) : Nat := if p < y then p else p + 1
theorem sk_ne {y p : Nat} : sk y p ≠ y := by unfold sk; split <;> omega
theorem sk_inj {y p q : Nat} (h : sk y p = sk y q) : p = q := by unfold sk at h; split at h <;> split at h <;> omega
theorem sk_surj {y p : Nat} (h : p ≠ y) : ∃ p', sk y p' = p := by
  by_cases h1 : p < y
  · exact ⟨p, by simp [sk, h1]⟩
  · exact ⟨p - 1, by unfold sk; rw [if_neg (by omega)]; omega⟩
theorem sk_mono {y p q : Nat} (h : p < q) : sk y p < sk y q := by unfold sk; split <;> split <;> omega
theorem restI_succ {y : Int} {l : List Int} {i : Nat} {x : Int} (h : l[i]? = some x) : restI y (l.take (i + 1)) = restI y (l.take i) ++ (if x < y then [x] else if y < x then [x - 1] else []) := by
  obtain ⟨h1, h2⟩ := List.getElem?_eq_some_iff.1 h
  unfold restI
  rw [List.take_succ_eq_append_getElem h1, h2, List.filterMap_append]
  congr 1
  by_cases a : x < y
  · simp [a]
  · by_cases b : y < x <;> simp [a, b]
theorem restI_len {y : Int} {l : List Int} : (restI y l).length ≤ l.length := List.length_filterMap_le _ _
theorem mem_restI {y : Nat} {l : List Nat} {x : Nat} : (x : Int) ∈ restI y (ints' l) ↔ sk y x ∈ l := by
  unfold restI
  rw [List.mem_filterMap]
  constructor
  · rintro ⟨a, ha, h⟩
    obtain ⟨b, hb, rfl⟩ := List.mem_map.1 ha
    by_cases h1 : (b : Int) < y
    · simp [h1] at h
      have : sk y x = b := by unfold sk; split <;> omega
      rw [this]; exact hb
    · by_cases h2 : (y : Int) < b
      · simp [h1, h2] at h
        have : sk y x = b := by unfold sk; split <;> omega
        rw [this]; exact hb
      · simp [h1, h2] at h
  · intro h
    refine ⟨sk y x, List.mem_map.2 ⟨_, h, rfl⟩, ?_⟩
    unfold sk
    by_cases h1 : x < y
    · rw [if_pos h1, if_pos (by omega)]
    · rw [if_neg h1, if_neg (by omega), if_pos (by omega)]
      simp
theorem restI_mem {y : Int} {l : List Int} {x : Int} (h : x ∈ restI y l) : (x ∈ l ∧ x < y) ∨ (x + 1 ∈ l ∧ y ≤ x) := by
  unfold restI at h
  obtain ⟨a, ha, h⟩ := List.mem_filterMap.1 h
  by_cases h1 : a < y
  · simp [h1] at h; subst h; exact .inl ⟨ha, h1⟩
  · by_cases h2 : y < a
    · simp [h1, h2] at h; subst h
      refine .inr ⟨by simpa using ha, by omega⟩
    · simp [h1, h2] at h
theorem restI_sorted {y : Int} {l : List Int} (h : l.Pairwise (· < ·)) : (restI y l).Pairwise (· < ·) := by
  unfold restI
  rw [List.pairwise_filterMap]
  refine h.imp fun {a b} hab c hc d hd => ?_
  by_cases h1 : a < y
  · simp [h1] at hc
    by_cases h2 : b < y
    · simp [h2] at hd; omega
    · by_cases h3 : y < b
      · simp [h2, h3] at hd; omega
      · simp [h2, h3] at hd
  · by_cases h4 : y < a
    · simp [h1, h4] at hc
      have h2 : ¬ b < y := by omega
      have h3 : y < b := by omega
      simp [h2, h3] at hd; omega
    · simp [h1, h4] at hc
theorem rises_mk : ∀ (l : List Int) (n last : Int), (∀ x ∈ l, last < x ∧ x < n) → l.Pairwise (· < ·) → risesB n last l = true
  | [], _, _, _, _ => rfl
  | p :: r, n, last, h, hp => by
    rw [List.pairwise_cons] at hp
    have h1 := h p (by simp)
    simp only [risesB, Bool.and_eq_true, decide_eq_true_eq]
    exact ⟨h1, rises_mk r n p (fun x hx => ⟨hp.1 x hx, (h x (by simp [hx])).2⟩) hp.2⟩
theorem nodes_mk : ∀ (l : List NodeA) (n last : Int), (∀ x ∈ l, last < x.addr ∧ 1 ≤ x.words ∧ x.words ≤ 49 ∧ risesB n (-1) x.to = true) → l.Pairwise (fun a b => a.addr < b.addr) → nodesB n last l = true
  | [], _, _, _, _ => rfl
  | p :: r, n, last, h, hp => by
    rw [List.pairwise_cons] at hp
    obtain ⟨h1, h2, h3, h4⟩ := h p (by simp)
    simp only [nodesB, Bool.and_eq_true, decide_eq_true_eq]
    exact ⟨h1, ⟨h2, h3⟩, h4, nodes_mk r n p.addr (fun x hx => by obtain ⟨_, b⟩ := h x (by simp [hx]); exact ⟨hp.1 x hx, b⟩) hp.2⟩
theorem nodes_sorted : ∀ (l : List NodeA) (n last : Int), nodesB n last l = true → l.Pairwise (fun a b => a.addr < b.addr)
  | [], _, _, _ => .nil
  | p :: r, n, last, h => by
    simp only [nodesB, Bool.and_eq_true, decide_eq_true_eq] at h
    exact List.pairwise_cons.2 ⟨fun x hx => (nodes_ok r n p.addr h.2.2.2 x hx).2.2.2, nodes_sorted r n p.addr h.2.2.2⟩
section
variable {N : List NodeA} {R : List Int} {y : Nat}
theorem woN_len (hy : y < N.length) : (woN N y).length + 1 = N.length := by
  unfold woN
  rw [List.length_map, List.length_eraseIdx_of_lt hy]
  omega
theorem woN_get {p : Nat} : (woN N y)[p]? = (N[sk y p]?).map (woA y) := by
  unfold woN sk
  rw [List.getElem?_map, List.getElem?_eraseIdx]
  split <;> rfl
theorem rest_ok {n : Int} {l : List Int} (hy : (y : Int) < n) (h : risesB n (-1) l = true) : risesB (n - 1) (-1) (restI y l) = true := by
  obtain ⟨h1, h2⟩ := rises_ok _ _ _ (by omega) h
  refine rises_mk _ _ _ (fun x hx => ?_) (restI_sorted h2)
  rcases restI_mem hx with ⟨a, b⟩ | ⟨a, b⟩
  · have := h1 x a; omega
  · have := h1 _ a; omega
theorem wo_valid (h : validG N R = true) (hy : y < N.length) : validG (woN N y) (restI y R) = true := by
  have hl := woN_len hy
  simp only [validG, Bool.and_eq_true, decide_eq_true_eq] at h ⊢
  obtain ⟨h1, h2, h3⟩ := h
  have e : ((woN N y).length : Int) = N.length - 1 := by omega
  refine ⟨by omega, by rw [e]; exact rest_ok (by omega) h2, nodes_mk _ _ _ (fun x hx => ?_) ?_⟩
  · unfold woN at hx
    obtain ⟨z, hz, rfl⟩ := List.mem_map.1 hx
    obtain ⟨a, b, c, d⟩ := nodes_ok N _ _ h3 z (List.mem_of_mem_eraseIdx hz)
    exact ⟨d, b, c, by rw [e]; exact rest_ok (by omega) a⟩
  · unfold woN
    rw [List.pairwise_map]
    exact (nodes_sorted N _ _ h3).sublist (List.eraseIdx_sublist _ _)
theorem mem_to_wo (h : validG N R = true) {p x : Nat} : x ∈ toN (woN N y) p ↔ sk y x ∈ toN N (sk y p) := by
  obtain ⟨_, hto, _⟩ := valid_to h
  have e : toN (woN N y) p = (((N[sk y p]?).map fun x => restI y x.to).getD []).map Int.toNat := by
    unfold toN
    rw [woN_get]
    cases N[sk y p]? <;> rfl
  rw [e]
  cases hp : N[sk y p]? with
  | none =>
    have : toN N (sk y p) = [] := by simp [toN, hp]
    simp [this]
  | some nd =>
    have ht := hto _ nd hp
    simp only [Option.map_some, Option.getD_some]
    rw [ht, ← mem_restI]
    rw [List.mem_map]
    constructor
    · rintro ⟨a, ha, rfl⟩
      have : 0 ≤ a := by
        rcases restI_mem ha with ⟨h1, _⟩ | ⟨_, h1⟩
        · obtain ⟨b, _, rfl⟩ := List.mem_map.1 h1; omega
        · omega
      rwa [Int.toNat_of_nonneg this]
    · exact fun h => ⟨_, h, by simp⟩
theorem mem_roots_wo (h : validG N R = true) {x : Nat} : x ∈ rootsN (restI y R) ↔ sk y x ∈ rootsN R := by
  obtain ⟨_, _, _, hR, _⟩ := valid_to h
  have hR : R = ints' (rootsN R) := hR
  have e : rootsN (restI y R) = (restI y (ints' (rootsN R))).map Int.toNat := by rw [← hR]; rfl
  rw [e, ← mem_restI, List.mem_map]
  constructor
  · rintro ⟨a, ha, rfl⟩
    have : 0 ≤ a := by
      rcases restI_mem ha with ⟨h1, _⟩ | ⟨_, h1⟩
      · obtain ⟨b, _, rfl⟩ := List.mem_map.1 h1; omega
      · omega
    rwa [Int.toNat_of_nonneg this]
  · exact fun h => ⟨_, h, by simp⟩
/-- what is reached without a node. -/
theorem wo_live (h : validG N R = true) {p : Nat} : Live (woN N y) (restI y R) p ↔ ∃ j, Pth (toN N) (rootsN R) y j (sk y p) := by
  constructor
  · rintro ⟨r, hr, hp⟩
    induction hp with
    | refl => exact ⟨0, .start ((mem_roots_wo h).1 hr) (by have := @sk_ne y r; omega)⟩
    | @step a b _ hb ih =>
      obtain ⟨j, hj⟩ := ih
      exact ⟨j + 1, .step hj ((mem_to_wo h).1 hb) (by have := @sk_ne y b; omega)⟩
  · rintro ⟨j, hj⟩
    generalize hq : sk y p = q at hj
    induction hj generalizing p with
    | @start q hs hne =>
      subst hq
      exact ⟨p, (mem_roots_wo h).2 hs, .refl p⟩
    | @step j a b hp hb hne ih =>
      subst hq
      have ha : (a : Int) ≠ y := by cases hp <;> assumption
      obtain ⟨a', rfl⟩ := sk_surj (y := y) (p := a) (by omega)
      obtain ⟨r, h1, h2⟩ := ih rfl
      exact ⟨r, h1, .step h2 ((mem_to_wo h).2 hb)⟩
theorem sum_sk (f : Nat → Int) : ∀ k : Nat, ((List.range k).map fun p => f (sk y p)).sum = ((List.range (if k ≤ y then k else k + 1)).map fun p => if p = y then 0 else f p).sum
  | 0 => by simp
  | k + 1 => by
    rw [List.range_succ, List.map_append, List.sum_append, sum_sk f k]
    by_cases h1 : k + 1 ≤ y
    · rw [if_pos (show k ≤ y by omega), if_pos h1, List.range_succ, List.map_append, List.sum_append]
      have e : sk y k = k := by unfold sk; rw [if_pos (by omega)]
      have e2 : ¬ k = y := by omega
      simp [e, e2]
    · rw [if_neg h1]
      by_cases h2 : k ≤ y
      · have e : k = y := by omega
        subst e
        rw [if_pos (Nat.le_refl _), List.range_succ (n := k + 1), List.map_append, List.sum_append, List.range_succ (n := k), List.map_append, List.sum_append]
        simp [sk]
      · rw [if_neg h2, List.range_succ (n := k + 1), List.map_append, List.sum_append]
        have e : sk y k = k + 1 := by unfold sk; rw [if_neg (by omega)]
        have e2 : ¬ k + 1 = y := by omega
        simp [e, e2]
theorem wd_wo {p : Nat} : wd (woN N y) p = wd N (sk y p) := by
  unfold wd
  rw [woN_get]
  cases N[sk y p]? <;> rfl
/-- words without a node. -/
theorem sum_wo (hy : y < N.length) (lx av : Nat → Bool) (h : ∀ p, p < (woN N y).length → lx p = av (sk y p)) (hav : av y = false) : sumW (woN N y) lx (woN N y).length = sumW N av N.length := by
  have hl := woN_len hy
  unfold sumW
  have e1 : ((List.range (woN N y).length).map fun p => if lx p = true then wd (woN N y) p else 0) = (List.range (woN N y).length).map fun p => (fun q => if av q = true then wd N q else 0) (sk y p) := by
    refine List.map_congr_left fun p hp => ?_
    simp only [wd_wo]
    rw [h p (by simpa using hp)]
  rw [e1]
  refine (sum_sk (y := y) (fun q => if av q = true then wd N q else 0) _).trans ?_
  have e3 : ∀ k, ((List.range k).map fun p => if p = y then (0 : Int) else (fun q => if av q = true then wd N q else 0) p) = (List.range k).map fun p => if av p = true then wd N p else 0 := fun k => by
    refine List.map_congr_left fun p _ => ?_
    by_cases e : p = y
    · subst e; simp [hav]
    · simp [e]
  rw [e3]
  by_cases hle : (woN N y).length ≤ y
  · have e : N.length = (woN N y).length + 1 := hl.symm
    have e4 : (woN N y).length = y := by omega
    rw [if_pos hle, e, List.range_succ, List.map_append, List.sum_append, e4]
    simp [hav]
  · rw [if_neg hle, hl]
theorem sum_split (lv av hl : Nat → Bool) (n : Nat) (h : ∀ p, p < n → (av p = true → lv p = true) ∧ (hl p = true ↔ lv p = true ∧ av p = false)) : sumW N lv n - sumW N av n = sumW N hl n := by
  induction n with
  | zero => simp [sumW]
  | succ n ih =>
    have := ih fun p hp => h p (by omega)
    obtain ⟨h1, h2⟩ := h n (by omega)
    rw [sumW_succ, sumW_succ, sumW_succ, ← this]
    cases e1 : lv n <;> cases e2 : av n <;> cases e3 : hl n <;> simp_all <;> omega
end
/-! ### sums of rising rows -/
theorem sorted_ext : ∀ {l1 l2 : List Nat}, l1.Pairwise (· < ·) → l2.Pairwise (· < ·) → (∀ x, x ∈ l1 ↔ x ∈ l2) → l1 = l2
  | [], [], _, _, _ => rfl
  | [], b :: l2, _, _, h => by have := (h b).2 (by simp); simp at this
  | a :: l1, [], _, _, h => by have := (h a).1 (by simp); simp at this
  | a :: l1, b :: l2, h1, h2, h => by
    rw [List.pairwise_cons] at h1 h2
    have hab : a = b := by
      have ha := (h a).1 (by simp)
      have hb := (h b).2 (by simp)
      rcases List.mem_cons.1 ha with e | e
      · exact e
      · rcases List.mem_cons.1 hb with e2 | e2
        · exact e2.symm
        · have := h2.1 a e; have := h1.1 b e2; omega
    subst hab
    rw [sorted_ext h1.2 h2.2 fun x => ?_]
    have hx := h x
    constructor
    · intro g
      rcases List.mem_cons.1 (hx.1 (by simp [g])) with e | e
      · have := h1.1 x g; omega
      · exact e
    · intro g
      rcases List.mem_cons.1 (hx.2 (by simp [g])) with e | e
      · have := h2.1 x g; omega
      · exact e
theorem sum_filter (f : Nat → Int) (b : Nat → Bool) : ∀ l : List Nat, ((l.filter b).map f).sum = (l.map fun p => if b p then f p else 0).sum
  | [] => rfl
  | a :: l => by
    rw [List.filter_cons]
    cases h : b a <;> simp [h, sum_filter f b l]
theorem sum_rising {N : List NodeA} {l : List Nat} {n : Nat} (hl : l.Pairwise (· < ·)) (b : Nat → Bool) (h : ∀ p, p ∈ l ↔ p < n ∧ b p = true) : (l.map (wd N)).sum = sumW N b n := by
  have e : l = (List.range n).filter b := sorted_ext hl (List.Pairwise.filter _ List.pairwise_lt_range) fun x => by rw [h, List.mem_filter, List.mem_range]
  rw [e, sum_filter]
  rfl
end Go.AM.G
