/- Places as sets that rise: plain laws; put, and where an address is. -/
import Derived.Test.YtkimcedmfnoeoaaGreatDoorHpX
set_option linter.unusedVariables false
set_option linter.unusedSimpArgs false

set_option maxRecDepth 100000
namespace Go.AM.G
open Go Go.AM
def putN : List Nat → Nat → List Nat
  | [], p => [p]
  | a :: l, p => if a < p then a :: putN l p else if a = p then a :: l else p :: a :: l
theorem mem_putN {p x : Nat} : ∀ {l : List Nat}, x ∈ putN l p ↔ x = p ∨ x ∈ l
  | [] => by simp [putN]
  | a :: l => by
    unfold putN
    split
    · rw [List.mem_cons, mem_putN (l := l), List.mem_cons]
      exact ⟨fun h => by rcases h with h | h | h <;> simp [h], fun h => by rcases h with h | h | h <;> simp [h]⟩
    · split
      · rename_i h; subst h; simp
      · simp
theorem putN_sorted {p : Nat} : ∀ {l : List Nat}, l.Pairwise (· < ·) → (putN l p).Pairwise (· < ·)
  | [], _ => by simp [putN]
  | a :: l, h => by
    unfold putN
    rw [List.pairwise_cons] at h
    split
    · rename_i hap
      rw [List.pairwise_cons]
      refine ⟨fun x hx => ?_, putN_sorted h.2⟩
      rcases mem_putN.1 hx with rfl | hx
      · exact hap
      · exact h.1 x hx
    · split
      · exact List.pairwise_cons.2 h
      · rw [List.pairwise_cons, List.pairwise_cons]
        refine ⟨fun x hx => ?_, h⟩
        rcases List.mem_cons.1 hx with rfl | hx
        · omega
        · have := h.1 x hx; omega
theorem putN_le {p : Nat} : ∀ {l : List Nat}, (putN l p).length ≤ l.length + 1
  | [] => by simp [putN]
  | a :: l => by
    unfold putN
    have := @putN_le p l
    split
    · simp; omega
    · split <;> simp
/-- where it comes. -/
theorem putN_at {p : Nat} : ∀ {l : List Nat} {i : Nat}, i ≤ l.length → (∀ (j x : Nat), j < i → l[j]? = some x → x < p) → (∀ x, l[i]? = some x → ¬ x < p) → putN l p = if l[i]? = some p then l else l.take i ++ p :: l.drop i
  | [], i, h, _, _ => by
    have : i = 0 := by simpa using h
    subst this; simp [putN]
  | a :: l, 0, _, _, h => by
    have h1 := h a rfl
    unfold putN
    rw [if_neg h1]
    simp
  | a :: l, i + 1, hi, h1, h2 => by
    have h3 := h1 0 a (by omega) rfl
    have ih := putN_at (p := p) (l := l) (i := i) (by simpa using hi) (fun j x hj hx => h1 (j + 1) x (by omega) (by simpa using hx)) (fun x hx => h2 x (by simpa using hx))
    unfold putN
    rw [if_pos h3, ih]
    simp only [List.getElem?_cons_succ, List.take_succ_cons, List.drop_succ_cons]
    split <;> simp
/-- the set of a list. -/
def setN (l : List Nat) : List Nat := l.foldl putN []
theorem setN_snoc {l : List Nat} {p : Nat} : setN (l ++ [p]) = putN (setN l) p := by simp [setN, List.foldl_append]
theorem fold_mem {x : Nat} : ∀ {l k : List Nat}, x ∈ l.foldl putN k ↔ x ∈ k ∨ x ∈ l
  | [], k => by simp
  | a :: l, k => by
    rw [List.foldl_cons, fold_mem, mem_putN, List.mem_cons]
    exact ⟨fun h => by rcases h with (h | h) | h <;> simp [h], fun h => by rcases h with h | h | h <;> simp [h]⟩
theorem mem_setN {l : List Nat} {x : Nat} : x ∈ setN l ↔ x ∈ l := by
  show x ∈ l.foldl putN [] ↔ x ∈ l
  rw [fold_mem]; simp
theorem fold_sorted : ∀ {l k : List Nat}, k.Pairwise (· < ·) → (l.foldl putN k).Pairwise (· < ·)
  | [], _, h => h
  | a :: l, k, h => fold_sorted (l := l) (putN_sorted h)
theorem setN_sorted {l : List Nat} : (setN l).Pairwise (· < ·) := fold_sorted List.Pairwise.nil
theorem fold_le : ∀ {l k : List Nat}, (l.foldl putN k).length ≤ l.length + k.length
  | [], k => by simp
  | a :: l, k => by
    have := @fold_le l (putN k a)
    have := @putN_le a k
    simp only [List.foldl_cons, List.length_cons]; omega
theorem setN_le {l : List Nat} : (setN l).length ≤ l.length := by
  have := @fold_le l []
  simpa [setN] using this
theorem rise_ext : ∀ {l k : List Nat}, l.Pairwise (· < ·) → k.Pairwise (· < ·) → (∀ x, x ∈ l ↔ x ∈ k) → l = k
  | [], [], _, _, _ => rfl
  | [], b :: k, _, _, h => by have := (h b).2 (by simp); simp at this
  | a :: l, [], _, _, h => by have := (h a).1 (by simp); simp at this
  | a :: l, b :: k, h1, h2, h => by
    rw [List.pairwise_cons] at h1 h2
    have e : a = b := by
      rcases List.mem_cons.1 ((h a).1 (by simp)) with e | ha
      · exact e
      · rcases List.mem_cons.1 ((h b).2 (by simp)) with e | hb
        · exact e.symm
        · have := h1.1 b hb; have := h2.1 a ha; omega
    subst e
    congr 1
    refine rise_ext h1.2 h2.2 fun x => ?_
    constructor
    · intro hx
      rcases List.mem_cons.1 ((h x).1 (List.mem_cons_of_mem _ hx)) with e | hk
      · have := h1.1 x hx; omega
      · exact hk
    · intro hx
      rcases List.mem_cons.1 ((h x).2 (List.mem_cons_of_mem _ hx)) with e | hk
      · have := h2.1 x hx; omega
      · exact hk
/-- equal neighbours but once. -/
def cl : List Nat → List Nat
  | [] => []
  | [a] => [a]
  | a :: b :: r => if a = b then cl (b :: r) else a :: cl (b :: r)
theorem cl_mem {x : Nat} : ∀ {l : List Nat}, x ∈ cl l ↔ x ∈ l
  | [] => Iff.rfl
  | [a] => Iff.rfl
  | a :: b :: r => by
    unfold cl
    split
    · rename_i e
      rw [cl_mem, e, List.mem_cons (a := x) (b := b) (l := b :: r)]
      exact ⟨.inr, fun h => by rcases h with h | h; exact h ▸ List.mem_cons_self; exact h⟩
    · rw [List.mem_cons, cl_mem, List.mem_cons (a := x) (b := a)]
theorem cl_sorted : ∀ {l : List Nat}, l.Pairwise (· ≤ ·) → (cl l).Pairwise (· < ·)
  | [], _ => List.Pairwise.nil
  | [a], _ => by simp [cl]
  | a :: b :: r, h => by
    have h2 := List.pairwise_cons.1 h
    unfold cl
    split
    · exact cl_sorted h2.2
    · rename_i hne
      rw [List.pairwise_cons]
      refine ⟨fun x hx => ?_, cl_sorted h2.2⟩
      have hx' := cl_mem.1 hx
      have h3 := List.pairwise_cons.1 h2.2
      have hab := h2.1 b (by simp)
      rcases List.mem_cons.1 hx' with e | hx'
      · omega
      · have := h3.1 x hx'; omega
theorem cl_set {l k : List Nat} (hp : k.Pairwise (· ≤ ·)) (hm : ∀ x, x ∈ k ↔ x ∈ l) : cl k = setN l := rise_ext (cl_sorted hp) setN_sorted fun x => by rw [cl_mem, mem_setN, hm]
/-- one more behind. -/
theorem cl_snoc {a b : Nat} : ∀ {l : List Nat}, cl (l ++ [a, b]) = if a = b then cl (l ++ [a]) else cl (l ++ [a]) ++ [b]
  | [] => by
    show cl [a, b] = _
    unfold cl
    split
    · rename_i e; subst e; rfl
    · rfl
  | [c] => by
    show cl (c :: a :: [b]) = if a = b then cl [c, a] else cl [c, a] ++ [b]
    have ih := @cl_snoc a b []
    simp only [List.nil_append] at ih
    unfold cl
    split
    · exact ih
    · rw [ih]; split <;> rfl
  | c :: d :: l => by
    have ih := @cl_snoc a b (d :: l)
    simp only [List.cons_append] at ih ⊢
    rw [cl, cl]
    split
    · exact ih
    · rw [ih]; split <;> rfl
abbrev nats (l : List Nat) : List (List V) := l.map fun p : Nat => [V.int .i64 (p : Int)]
def nx (l : List Nat) (i : Nat) : Nat := l.getD i 0
theorem nx_get {l : List Nat} {i : Nat} (h : i < l.length) : l[i]? = some (nx l i) := by simp [nx, List.getD_eq_getElem?_getD, h]
theorem map_nx {α : Type} {f : Nat → α} {l : List Nat} : l.map f = (List.range l.length).map fun i => f (nx l i) := by
  apply List.ext_getElem?
  intro i
  simp only [List.getElem?_map, List.getElem?_range]
  by_cases h : i < l.length
  · rw [nx_get h]; simp [h]
  · simp [h]
abbrev Nus (m : Mem) (v : V) (l : List Nat) : Prop := Rd m v 1 l.length (fun i => [.int .u64 (nx l i : Nat)])
abbrev Nis (m : Mem) (v : V) (l : List Nat) : Prop := Rd m v 1 l.length (fun i => [.int .i64 (nx l i : Nat)])
theorem Nis.of {m : Mem} {v : V} {l : List Nat} (h : Sl m v 1 (nats l)) : Nis m v l := .inl (map_nx (f := fun p : Nat => [V.int .i64 (p : Int)]) (l := l) ▸ h)
theorem Nus.of {m : Mem} {v : V} {l : List Nat} (h : Sl m v 1 (u64l l)) : Nus m v l := .inl (map_nx (f := fun p : Nat => [V.int .u64 (p : Int)]) (l := l) ▸ h)
theorem nx_mem {l : List Nat} {i : Nat} (h : i < l.length) : nx l i ∈ l := List.mem_of_getElem? (nx_get h)
theorem nx_of {l : List Nat} {a : Nat} (h : a ∈ l) : ∃ i, i < l.length ∧ nx l i = a := by
  obtain ⟨i, hi, e⟩ := List.getElem_of_mem h
  exact ⟨i, hi, by simp [nx, List.getD_eq_getElem?_getD, hi, e]⟩
theorem nx_rise {l : List Nat} (h : l.Pairwise (· < ·)) {p q : Nat} (hp : p < q) (hq : q < l.length) : nx l p < nx l q := by
  have := List.pairwise_iff_getElem.1 h p q (by omega) hq hp
  simpa [nx, List.getD_eq_getElem?_getD, hq, show p < l.length by omega] using this
/-- an address's place. -/
def plc (l : List Nat) (a : Nat) : Nat := l.idxOf a
theorem plc_of {l : List Nat} (h : l.Pairwise (· < ·)) {i : Nat} (hi : i < l.length) : plc l (nx l i) = i := by
  have hm := nx_mem hi
  have h1 : plc l (nx l i) < l.length := List.idxOf_lt_length_iff.2 hm
  have h2 : nx l (plc l (nx l i)) = nx l i := by
    have e := List.getElem_idxOf h1
    show l.getD (l.idxOf (nx l i)) 0 = nx l i
    rw [List.getD_eq_getElem?_getD, List.getElem?_eq_getElem (show l.idxOf (nx l i) < l.length from h1)]
    exact e
  rcases Nat.lt_trichotomy (plc l (nx l i)) i with h3 | h3 | h3
  · have := nx_rise h h3 hi; omega
  · exact h3
  · have := nx_rise h h3 h1; omega
end Go.AM.G


set_option maxRecDepth 100000
namespace Go.AM.G
open Go Go.AM
theorem isNaN2_spec {m : Mem} {a : Nat} : C S n_slices_isNaN_uint64 [.int .u64 (a : Nat)] m (fun r m' => r = .bool false ∧ Grow m m') := by
  have G := Grow.refl m
  refine fn rfl ?_
  trivial
theorem Less_spec {m : Mem} {a b : Nat} : C S n_cmp_Less_uint64 [.int .u64 (a : Nat), .int .u64 (b : Nat)] m (fun r m' => r = .bool (decide (a < b)) ∧ Grow m m') := by
  have e : decide (a < b) = decide ((a : Int) < (b : Int)) := decide_eq_decide.2 (by omega)
  rw [e]
  refine fn rfl ?_
  refine isNaN_spec.mono ?_
  rintro _ _ ⟨rfl, ⟨g1, rfl⟩⟩
  refine am ?_
  exact ⟨_, rfl⟩
theorem bsearch_spec {m : Mem} {v : V} {l : List Nat} {a : Nat} (hv : Nus m v l) (hr : l.Pairwise (· < ·)) (hl : l.length < 1000000) (ha : a ∈ l) : C S n_slices_BinarySearch_uint64 [v, .int .u64 (a : Nat)] m
    (fun r m' => (∃ b, r = .tup [.int .i64 (plc l a : Nat), .bool b]) ∧ Grow m m') := by
  have A := hv.ar
  obtain ⟨t, ht, rfl⟩ := nx_of ha
  rw [plc_of hr ht]
  have hr' := PLift.up hr
  clear hr ha
  refine fn rfl ?_
  let I := fun (d : Nat) (fr : Frame) (M : Mem) => ∃ i j : Nat, i ≤ t ∧ t ≤ j ∧ j ≤ l.length ∧ d = j - i ∧ Has fr [(0, v), (1, .int .u64 (nx l t : Nat)), (6, .int .i64 (l.length : Nat)), (7, .int .i64 (i : Nat)), (8, .int .i64 (j : Nat))] ∧ (∃ g, M = m ++ g)
  refine W_loop I ?_ l.length ⟨0, l.length, Nat.zero_le _, Nat.le_of_lt ht, Nat.le_refl _, rfl, byam, ⟨[], by simp⟩⟩
  rintro d fr _ ⟨i, j, hit, htj, hj, rfl, F, ⟨g, rfl⟩⟩
  by_cases h : i < j
  · have c1 : ((i : Int) < (j : Int)) = True := eq_true (by omega)
    have w1 : IntKind.i64.wrap ((i : Int) + (j : Int)) = ((i + j : Nat) : Int) := by rw [wrap_i64] <;> omega
    have w2 := un' (a := i + j) (by omega)
    have w3 := halve (i := i) (j := j) (by omega)
    have w4 := wn (a := (i + j) / 2) (by omega)
    have hm : (i + j) / 2 < l.length := by omega
    have w5 : IntKind.i64.wrap ((((i + j) / 2 : Nat) : Int) + 1) = (((i + j) / 2 + 1 : Nat) : Int) := by rw [wrap_i64] <;> omega
    refine into ?_
    refine (Less_spec).mono ?_
    rintro _ _ ⟨rfl, ⟨g2, rfl⟩⟩
    by_cases hlt : nx l ((i + j) / 2) < nx l t
    · rw [decide_eq_true hlt]
      have hmt : (i + j) / 2 < t := by
        rcases Nat.lt_trichotomy ((i + j) / 2) t with h | h | h
        · exact h
        · rw [h] at hlt; omega
        · have := nx_rise hr'.down h hm; omega
      clear hlt
      refine am ?_
      refine ⟨_, ?_, (i + j) / 2 + 1, j, by omega, htj, hj, rfl, byam, ⟨_, rfl⟩⟩
      omega
    · rw [decide_eq_false hlt]
      have hmt : t ≤ (i + j) / 2 := by
        rcases Nat.lt_or_ge ((i + j) / 2) t with h | h
        · exact absurd (nx_rise hr'.down h ht) hlt
        · exact h
      clear hlt
      refine am ?_
      refine ⟨_, ?_, i, (i + j) / 2, hit, hmt, by omega, rfl, byam, ⟨_, rfl⟩⟩
      omega
  · have ei : i = t := by omega
    have ej : j = t := by omega
    subst ei
    subst ej
    have c1 : ((j : Int) < (j : Int)) = False := eq_false (by omega)
    have c2 : ((j : Int) < (l.length : Int)) = True := eq_true (by omega)
    have c3 : (((nx l j : Nat) : Int) = ((nx l j : Nat) : Int)) = True := eq_true rfl
    refine into ?_
    exact ⟨⟨_, rfl⟩, _, rfl⟩
end Go.AM.G
