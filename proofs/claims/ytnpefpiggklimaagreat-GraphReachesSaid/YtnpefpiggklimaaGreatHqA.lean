/- Places as sets that rise: plain laws; put, and where an address is. -/
import Derived.Test.YtnpefpiggklimaaGreatHpX
set_option linter.unusedVariables false
set_option linter.unusedSimpArgs false

set_option maxRecDepth 100000
namespace Go.AM.G
open Go Go.AM
def putN : List Nat → Nat → List Nat
  | [], p => [p]
  | a :: l, p => if a < p then a :: putN l p else if a = p then a :: l else p :: a :: l
theorem mem_putN {p x : Nat} : ∀ {l : List Nat}, x ∈ putN l p ↔ x = p ∨ x ∈ l
  | [] => by simp [putN]
  | a :: l => by
    unfold putN
    split
    · rw [List.mem_cons, mem_putN (l := l), List.mem_cons]
      exact ⟨fun h => by rcases h with h | h | h <;> simp [h], fun h => by rcases h with h | h | h <;> simp [h]⟩
    · split
      · rename_i h; subst h; simp
      · simp
theorem putN_sorted {p : Nat} : ∀ {l : List Nat}, l.Pairwise (· < ·) → (putN l p).Pairwise (· < ·)
  | [], _ => by simp [putN]
  | a :: l, h => by
    unfold putN
    rw [List.pairwise_cons] at h
    split
    · rename_i hap
      rw [List.pairwise_cons]
      refine ⟨fun x hx => ?_, putN_sorted h.2⟩
      rcases mem_putN.1 hx with rfl | hx
      · exact hap
      · exact h.1 x hx
    · split
      · exact List.pairwise_cons.2 h
      · rw [List.pairwise_cons, List.pairwise_cons]
        refine ⟨fun x hx => ?_, h⟩
        rcases List.mem_cons.1 hx with rfl | hx
        · omega
        · have := h.1 x hx; omega
theorem putN_le {p : Nat} : ∀ {l : List Nat}, (putN l p).length ≤ l.length + 1
  | [] => by simp [putN]
  | a :: l => by
    unfold putN
    have := @putN_le p l
    split
    · simp; omega
    · split <;> simp
/-- where it comes. -/
theorem putN_at {p : Nat} : ∀ {l : List Nat} {i : Nat}, i ≤ l.length → (∀ (j x : Nat), j < i → l[j]? = some x → x < p) → (∀ x, l[i]? = some x → ¬ x < p) → putN l p = if l[i]? = some p then l else l.take i ++ p :: l.drop i
  | [], i, h, _, _ => by
    have : i = 0 := by simpa using h
    subst this; simp [putN]
  | a :: l, 0, _, _, h => by
    have h1 := h a rfl
    unfold putN
    rw [if_neg h1]
    simp
  | a :: l, i + 1, hi, h1, h2 => by
    have h3 := h1 0 a (by omega) rfl
    have ih := putN_at (p := p) (l := l) (i := i) (by simpa using hi) (fun j x hj hx => h1 (j + 1) x (by omega) (by simpa using hx)) (fun x hx => h2 x (by simpa using hx))
    unfold putN
    rw [if_pos h3, ih]
    simp only [List.getElem?_cons_succ, List.take_succ_cons, List.drop_succ_cons]
    split <;> simp
/-- the set of a list. -/
def setN (l : List Nat) : List Nat := l.foldl putN []
theorem setN_snoc {l : List Nat} {p : Nat} : setN (l ++ [p]) = putN (setN l) p := by simp [setN, List.foldl_append]
theorem fold_mem {x : Nat} : ∀ {l k : List Nat}, x ∈ l.foldl putN k ↔ x ∈ k ∨ x ∈ l
  | [], k => by simp
  | a :: l, k => by
    rw [List.foldl_cons, fold_mem, mem_putN, List.mem_cons]
    exact ⟨fun h => by rcases h with (h | h) | h <;> simp [h], fun h => by rcases h with h | h | h <;> simp [h]⟩
theorem mem_setN {l : List Nat} {x : Nat} : x ∈ setN l ↔ x ∈ l := by
  show x ∈ l.foldl putN [] ↔ x ∈ l
  rw [fold_mem]; simp
theorem fold_sorted : ∀ {l k : List Nat}, k.Pairwise (· < ·) → (l.foldl putN k).Pairwise (· < ·)
  | [], _, h => h
  | a :: l, k, h => fold_sorted (l := l) (putN_sorted h)
theorem setN_sorted {l : List Nat} : (setN l).Pairwise (· < ·) := fold_sorted List.Pairwise.nil
theorem fold_le : ∀ {l k : List Nat}, (l.foldl putN k).length ≤ l.length + k.length
  | [], k => by simp
  | a :: l, k => by
    have := @fold_le l (putN k a)
    have := @putN_le a k
    simp only [List.foldl_cons, List.length_cons]; omega
theorem setN_le {l : List Nat} : (setN l).length ≤ l.length := by
  have := @fold_le l []
  simpa [setN] using this
theorem rise_ext : ∀ {l k : List Nat}, l.Pairwise (· < ·) → k.Pairwise (· < ·) → (∀ x, x ∈ l ↔ x ∈ k) → l = k
  | [], [], _, _, _ => rfl
  | [], b :: k, _, _, h => by have := (h b).2 (by simp); simp at this
  | a :: l, [], _, _, h => by have := (h a).1 (by simp); simp at this
  | a :: l, b :: k, h1, h2, h => by
    rw [List.pairwise_cons] at h1 h2
    have e : a = b := by
      rcases List.mem_cons.1 ((h a).1 (by simp)) with e | ha
      · exact e
      · rcases List.mem_cons.1 ((h b).2 (by simp)) with e | hb
        · exact e.symm
        · have := h1.1 b hb; have := h2.1 a ha; omega
    subst e
    congr 1
    refine rise_ext h1.2 h2.2 fun x => ?_
    constructor
    · intro hx
      rcases List.mem_cons.1 ((h x).1 (List.mem_cons_of_mem _ hx)) with e | hk
      · have := h1.1 x hx; omega
      · exact hk
    · intro hx
      rcases List.mem_cons.1 ((h x).2 (List.mem_cons_of_mem _ hx)) with e | hk
      · have := h2.1 x hx; omega
      · exact hk
/-- equal neighbours but once. -/
def cl : List Nat → List Nat
  | [] => []
  | [a] => [a]
  | a :: b :: r => if a = b then cl (b :: r) else a :: cl (b :: r)
theorem cl_mem {x : Nat} : ∀ {l : List Nat}, x ∈ cl l ↔ x ∈ l
  | [] => Iff.rfl
  | [a] => Iff.rfl
  | a :: b :: r => by
    unfold cl
    split
    · rename_i e
      rw [cl_mem, e, List.mem_cons (a := x) (b := b) (l := b :: r)]
      exact ⟨.inr, fun h => by rcases h with h | h; exact h ▸ List.mem_cons_self; exact h⟩
    · rw [List.mem_cons, cl_mem, List.mem_cons (a := x) (b := a)]
theorem cl_sorted : ∀ {l : List Nat}, l.Pairwise (· ≤ ·) → (cl l).Pairwise (· < ·)
  | [], _ => List.Pairwise.nil
  | [a], _ => by simp [cl]
  | a :: b :: r, h => by
    have h2 := List.pairwise_cons.1 h
    unfold cl
    split
    · exact cl_sorted h2.2
    · rename_i hne
      rw [List.pairwise_cons]
      refine ⟨fun x hx => ?_, cl_sorted h2.2⟩
      have hx' := cl_mem.1 hx
      have h3 := List.pairwise_cons.1 h2.2
      have hab := h2.1 b (by simp)
      rcases List.mem_cons.1 hx' with e | hx'
      · omega
      · have := h3.1 x hx'; omega
theorem cl_set {l k : List Nat} (hp : k.Pairwise (· ≤ ·)) (hm : ∀ x, x ∈ k ↔ x ∈ l) : cl k = setN l := rise_ext (cl_sorted hp) setN_sorted fun x => by rw [cl_mem, mem_setN, hm]
/-- one more behind. -/
theorem cl_snoc {a b : Nat} : ∀ {l : List Nat}, cl (l ++ [a, b]) = if a = b then cl (l ++ [a]) else cl (l ++ [a]) ++ [b]
  | [] => by
    show cl [a, b] = _
    unfold cl
    split
    · rename_i e; subst e; rfl
    · rfl
  | [c] => by
    show cl (c :: a :: [b]) = if a = b then cl [c, a] else cl [c, a] ++ [b]
    have ih := @cl_snoc a b []
    simp only [List.nil_append] at ih
    unfold cl
    split
    · exact ih
    · rw [ih]; split <;> rfl
  | c :: d :: l => by
    have ih := @cl_snoc a b (d :: l)
    simp only [List.cons_append] at ih ⊢
    rw [cl, cl]
    split
    · exact ih
    · rw [ih]; split <;> rfl
abbrev nats (l : List Nat) : List (List V) := l.map fun p : Nat => [V.int .i64 (p : Int)]
def nx (l : List Nat) (i : Nat) : Nat := l.getD i 0
theorem nx_get {l : List Nat} {i : Nat} (h : i < l.length) : l[i]? = some (nx l i) := by simp [nx, List.getD_eq_getElem?_getD, h]
theorem map_nx {α : Type} {f : Nat → α} {l : List Nat} : l.map f = (List.range l.length).map fun i => f (nx l i) := by
  apply List.ext_getElem?
  intro i
  simp only [List.getElem?_map, List.getElem?_range]
  by_cases h : i < l.length
  · rw [nx_get h]; simp [h]
  · simp [h]
abbrev Nus (m : Mem) (v : V) (l : List Nat) : Prop := Rd m v 1 l.length (fun i => [.int .u64 (nx l i : Nat)])
abbrev Nis (m : Mem) (v : V) (l : List Nat) : Prop := Rd m v 1 l.length (fun i => [.int .i64 (nx l i : Nat)])
theorem Nis.of {m : Mem} {v : V} {l : List Nat} (h : Sl m v 1 (nats l)) : Nis m v l := .inl (map_nx (f := fun p : Nat => [V.int .i64 (p : Int)]) (l := l) ▸ h)
theorem Nus.of {m : Mem} {v : V} {l : List Nat} (h : Sl m v 1 (u64l l)) : Nus m v l := .inl (map_nx (f := fun p : Nat => [V.int .u64 (p : Int)]) (l := l) ▸ h)
theorem nx_mem {l : List Nat} {i : Nat} (h : i < l.length) : nx l i ∈ l := List.mem_of_getElem? (nx_get h)
theorem nx_of {l : List Nat} {a : Nat} (h : a ∈ l) : ∃ i, i < l.length ∧ nx l i = a := by
  obtain ⟨i, hi, e⟩ := List.getElem_of_mem h
  exact ⟨i, hi, by simp [nx, List.getD_eq_getElem?_getD, hi, e]⟩
theorem nx_rise {l : List Nat} (h : l.Pairwise (· < ·)) {p q : Nat} (hp : p < q) (hq : q < l.length) : nx l p < nx l q := by
  have := List.pairwise_iff_getElem.1 h p q (by omega) hq hp
  simpa [nx, List.getD_eq_getElem?_getD, hq, show p < l.length by omega] using this
/-- an address's place. -/
def plc (l : List Nat) (a : Nat) : Nat := l.idxOf a
theorem plc_of {l : List Nat} (h : l.Pairwise (· < ·)) {i : Nat} (hi : i < l.length) : plc l (nx l i) = i := by
  have hm := nx_mem hi
  have h1 : plc l (nx l i) < l.length := List.idxOf_lt_length_iff.2 hm
  have h2 : nx l (plc l (nx l i)) = nx l i := by
    have e := List.getElem_idxOf h1
    show l.getD (l.idxOf (nx l i)) 0 = nx l i
    rw [List.getD_eq_getElem?_getD, List.getElem?_eq_getElem (show l.idxOf (nx l i) < l.length from h1)]
    exact e
  rcases Nat.lt_trichotomy (plc l (nx l i)) i with h3 | h3 | h3
  · have := nx_rise h h3 hi; omega
  · exact h3
  · have := nx_rise h h3 h1; omega
end Go.AM.G


set_option maxRecDepth 100000
namespace Go.AM.G
open Go Go.AM
theorem isNaN2_spec {m : Mem} {a : Nat} : C S n_slices_isNaN_uint64 [.int .u64 (a : Nat)] m (fun r m' => r = .bool false ∧ Grow m m') := by
  have G := Grow.refl m
  refine fn rfl ?_
  trivial
theorem Less_spec {m : Mem} {a b : Nat} : C S n_cmp_Less_uint64 [.int .u64 (a : Nat), .int .u64 (b : Nat)] m (fun r m' => r = .bool (decide (a < b)) ∧ Grow m m') := by
  have e : decide (a < b) = decide ((a : Int) < (b : Int)) := decide_eq_decide.2 (by omega)
  rw [e]
  refine fn rfl ?_
  refine isNaN_spec.mono ?_
  rintro _ _ ⟨rfl, ⟨g1, rfl⟩⟩
  refine am ?_
  exact ⟨_, rfl⟩
theorem bsearch_spec {m : Mem} {v : V} {l : List Nat} {a : Nat} (hv : Nus m v l) (hr : l.Pairwise (· < ·)) (hl : l.length < 1000000) (ha : a ∈ l) : C S n_slices_BinarySearch_uint64 [v, .int .u64 (a : Nat)] m
    (fun r m' => (∃ b, r = .tup [.int .i64 (plc l a : Nat), .bool b]) ∧ Grow m m') := by
  have A := hv.ar
  obtain ⟨t, ht, rfl⟩ := nx_of ha
  rw [plc_of hr ht]
  have hr' := PLift.up hr
  clear hr ha
  refine fn rfl ?_
  let I := fun (d : Nat) (fr : Frame) (M : Mem) => ∃ i j : Nat, i ≤ t ∧ t ≤ j ∧ j ≤ l.length ∧ d = j - i ∧ Has fr [(0, v), (1, .int .u64 (nx l t : Nat)), (6, .int .i64 (l.length : Nat)), (7, .int .i64 (i : Nat)), (8, .int .i64 (j : Nat))] ∧ (∃ g, M = m ++ g)
  refine W_loop I ?_ l.length ⟨0, l.length, Nat.zero_le _, Nat.le_of_lt ht, Nat.le_refl _, rfl, byam, ⟨[], by simp⟩⟩
  rintro d fr _ ⟨i, j, hit, htj, hj, rfl, F, ⟨g, rfl⟩⟩
  by_cases h : i < j
  · have c1 : ((i : Int) < (j : Int)) = True := eq_true (by omega)
    have w1 : IntKind.i64.wrap ((i : Int) + (j : Int)) = ((i + j : Nat) : Int) := by rw [wrap_i64] <;> omega
    have w2 := un' (a := i + j) (by omega)
    have w3 := halve (i := i) (j := j) (by omega)
    have w4 := wn (a := (i + j) / 2) (by omega)
    have hm : (i + j) / 2 < l.length := by omega
    have w5 : IntKind.i64.wrap ((((i + j) / 2 : Nat) : Int) + 1) = (((i + j) / 2 + 1 : Nat) : Int) := by rw [wrap_i64] <;> omega
    refine into ?_
    refine (Less_spec).mono ?_
    rintro _ _ ⟨rfl, ⟨g2, rfl⟩⟩
    by_cases hlt : nx l ((i + j) / 2) < nx l t
    · rw [decide_eq_true hlt]
      have hmt : (i + j) / 2 < t := by
        rcases Nat.lt_trichotomy ((i + j) / 2) t with h | h | h
        · exact h
        · rw [h] at hlt; omega
        · have := nx_rise hr'.down h hm; omega
      clear hlt
      refine am ?_
      refine ⟨_, ?_, (i + j) / 2 + 1, j, by omega, htj, hj, rfl, byam, ⟨_, rfl⟩⟩
      omega
    · rw [decide_eq_false hlt]
      have hmt : t ≤ (i + j) / 2 := by
        rcases Nat.lt_or_ge ((i + j) / 2) t with h | h
        · exact absurd (nx_rise hr'.down h ht) hlt
        · exact h
      clear hlt
      refine am ?_
      refine ⟨_, ?_, i, (i + j) / 2, hit, hmt, by omega, rfl, byam, ⟨_, rfl⟩⟩
      omega
  · have ei : i = t := by omega
    have ej : j = t := by omega
    subst ei
    subst ej
    have c1 : ((j : Int) < (j : Int)) = False := eq_false (by omega)
    have c2 : ((j : Int) < (l.length : Int)) = True := eq_true (by omega)
    have c3 : (((nx l j : Nat) : Int) = ((nx l j : Nat) : Int)) = True := eq_true rfl
    refine into ?_
    exact ⟨⟨_, rfl⟩, _, rfl⟩
theorem Of_1_spec {m : Mem} {c : Nat} {own : Bool} {v : V} {l : List Nat} {a : Nat} (hc : m[c]? = some (.cells own [[v]])) (hv : Nus m v l) (hr : l.Pairwise (· < ·)) (hl : l.length < 1000000) (ha : a ∈ l) : C S n_graph_Of_1 [.int .u64 (a : Nat), .ptr c 0 0] m (fun r m' => r = .int .i64 (plc l a : Nat) ∧ Grow m m') := by
  have A := hv.ar
  have hr' := PLift.up hr
  have ha' := PLift.up ha
  clear hr ha
  refine fn rfl ?_
  refine (bsearch_spec hv hr'.down hl ha'.down).mono ?_
  rintro _ _ ⟨⟨b, rfl⟩, ⟨g, rfl⟩⟩
  refine am ?_
  exact ⟨_, rfl⟩
theorem ref31_at_spec {m : Mem} {v : V} {l : List Nat} {a : Nat} (hv : Nus m v l) (hr : l.Pairwise (· < ·)) (hl : l.length < 1000000) (ha : a ∈ l) : C S n_ref31_at [v, .int .u64 (a : Nat)] m (fun r m' => r = .int .i64 (plc l a : Nat) ∧ Grow m m') := by
  have A := hv.ar
  obtain ⟨t, ht, rfl⟩ := nx_of ha
  rw [plc_of hr ht]
  have hr' := PLift.up hr
  clear hr ha
  refine fn rfl ?_
  refine range (α := Unit) l.length (fun _ => [(1, .int .u64 (nx l t : Nat)), (7, v)]) (fun k _ M => (∃ g, M = m ++ g) ∧ k ≤ t) () ⟨⟨[], by simp⟩, Nat.zero_le _⟩ ?_ ?_
  · rintro k _ fr _ hk F ⟨⟨g, rfl⟩, hkt⟩
    by_cases h : k = t
    · subst h
      have c : (((nx l k : Nat) : Int) = ((nx l k : Nat) : Int)) = True := eq_true rfl
      refine am ?_
      exact ⟨_, rfl⟩
    · have := nx_rise hr'.down (show k < t by omega) ht
      have c : (((nx l k : Nat) : Int) = ((nx l t : Nat) : Int)) = False := eq_false (by omega)
      have hkt' : k + 1 ≤ t := by omega
      clear h this
      refine am ?_
      exact ⟨(), byam, ⟨_, rfl⟩, hkt'⟩
  · rintro _ fr _ F ⟨⟨g, rfl⟩, hkt⟩
    omega
end Go.AM.G


set_option maxRecDepth 100000
namespace Go.AM.G
open Go Go.AM
/-- a row of places, in the part that came behind so many blocks. -/
def Rg (len : Nat) (g : Mem) (v : V) (l : List Nat) : Prop := (v = .nils ∧ l = []) ∨ ∃ j cap ex own full, v = .slice (len + j) 0 l.length cap ex 1 ∧ l.length ≤ cap ∧ g[j]? = some (.cells own full) ∧ full.take l.length = nats l
section
variable {len : Nat} {g G A : Mem} {v : V} {l : List Nat}
theorem Rg.app (h : Rg len g v l) : Rg len (g ++ G) v l := h.imp id fun ⟨j, cap, ex, own, full, h1, h2, h3, h4⟩ => ⟨j, cap, ex, own, full, h1, h2, getElem?_grow h3, h4⟩
theorem Rg.cast {c : Nat} (h : Rg len g v l) (e : len = c := by (try simp only [List.length_append, List.length_cons, List.length_nil]) <;> omega) : Rg c g v l := e ▸ h
theorem Rg.pre (L : Mem) (h : Rg (len + L.length) g v l) : Rg len (L ++ g) v l := h.imp id fun ⟨j, cap, ex, own, full, h1, h2, h3, h4⟩ => ⟨L.length + j, cap, ex, own, full, by rw [h1, Nat.add_assoc], h2, by rw [List.getElem?_append_right (by omega), ← h3]; congr 1; omega, h4⟩
theorem Rg.cell (h : Rg len g v l) : v.isCell = true := by
  rcases h with ⟨rfl, _⟩ | ⟨j, cap, ex, own, full, rfl, _⟩ <;> rfl
theorem Rg.beq (h : Rg len g v l) : V.beq v v = true := by
  rcases h with ⟨rfl, _⟩ | ⟨j, cap, ex, own, full, rfl, _⟩
  · rfl
  · simp [V.beq]
theorem Rg.cap (h : Rg len g v l) : capOk v := by
  rcases h with ⟨rfl, _⟩ | ⟨j, cap, ex, own, full, rfl, h2, _⟩
  · exact trivial
  · exact h2
theorem Rg.sl (h : Rg A.length g v l) : Sl (A ++ (g ++ G)) v 1 (nats l) := by
  rcases h with ⟨rfl, rfl⟩ | ⟨j, cap, ex, own, full, rfl, _, h3, h4⟩
  · exact ⟨rfl, rfl⟩
  · have h5 : (A ++ (g ++ G))[A.length + j]? = some (.cells own full) := by
      rw [← List.append_assoc]
      refine getElem?_grow ?_
      rw [List.getElem?_append_right (by omega), ← h3]; congr 1; omega
    have hl : l.length ≤ full.length := by
      have := congrArg List.length h4
      simp only [List.length_take, List.length_map] at this; omega
    refine ⟨?_, by simp [zOk]⟩
    simp only [elems, h5]
    rw [if_pos (by omega), List.drop_zero, h4]
theorem Rg.keep {g' : Mem} (h : Rg len g v l) (hk : ∀ j, blkOf v = some (len + j) → g'[j]? = g[j]?) : Rg len g' v l := by
  rcases h with h | ⟨j, cap, ex, own, full, h1, h2, h3, h4⟩
  · exact .inl h
  · exact .inr ⟨j, cap, ex, own, full, h1, h2, by rw [hk j (by rw [h1]; rfl)]; exact h3, h4⟩
theorem Rg.blk (h : Rg len g v l) {b : Nat} (hb : blkOf v = some b) : len ≤ b ∧ b < len + g.length := by
  rcases h with ⟨rfl, _⟩ | ⟨j, cap, ex, own, full, rfl, h2, h3, h4⟩
  · cases hb
  · cases hb
    have := (List.getElem?_eq_some_iff.1 h3).1
    omega
theorem Gw.rg (h : Gw len g v 1 (nats l)) : Rg len g v l := by
  rcases h with ⟨rfl, h⟩ | ⟨j, rfl, h2⟩
  · refine .inl ⟨rfl, ?_⟩
    cases l with
    | nil => rfl
    | cons a l => cases h
  · have e : (nats l).length = l.length := by simp
    refine .inr ⟨j, l.length, false, true, nats l, by rw [e], Nat.le_refl _, h2, ?_⟩
    rw [← e, List.take_length]
end
/-- what is appended to a row that is full. -/
theorem app_eq {M : Mem} {b n bytes : Nat} {ex : Bool} {els ys : List (List V)} {y : V} {zero : List V} {z : Nat} (hb : M[b]? = some (.cells true els)) (hn : els.length = n) (hy : Sl M y z ys) (hr : roomy (n + ys.length) bytes = true) (hz : zero.length = z := by rfl) :
    appendV M zero bytes (.slice b 0 n n ex z) y = if ys = [] then some (.slice b 0 n n ex z, M) else some (.slice M.length 0 (n + ys.length) (n + ys.length) false z, (if ex = true then M else M.set b .dead) ++ [.cells true (els ++ ys)]) := by
  subst hz
  unfold appendV
  rw [elemsY_of hy.1]
  cases ys with
  | nil => simp [hy.2]
  | cons a r =>
    subst hn
    cases ex <;> simp [hy.2, hb] at hr ⊢ <;> simp [hr]
theorem take_drop_nats {l : List Nat} {i : Nat} : (nats l).take i = nats (l.take i) ∧ (nats l).drop i = nats (l.drop i) := ⟨List.map_take.symm, List.map_drop.symm⟩
/-- both parts of a row. -/
theorem Sl.parts {m : Mem} {v : V} {l : List Nat} {i : Nat} (h : Sl m v 1 (nats l)) (hc : capOk v) (hi : i ≤ l.length) : ∃ u1 u2, sliceV v none (some (.int .i64 (i : Nat))) none = some u1 ∧ sliceV v (some (.int .i64 (i : Nat))) none none = some u2 ∧ Sl m u1 1 (nats (l.take i)) ∧ Sl m u2 1 (nats (l.drop i)) := by
  by_cases h0 : l = []
  · subst h0
    have : i = 0 := by simpa using hi
    subst this
    rcases h.cases with ⟨rfl, _⟩ | ⟨b, j, len, cap, ex, rfl⟩
    · exact ⟨.nils, .nils, by simp [sliceV, bound], by simp [sliceV, bound], ⟨rfl, rfl⟩, ⟨rfl, rfl⟩⟩
    · have he := h.1
      simp only [elems] at he
      split at he
      · rename_i own els hb
        split at he
        · rename_i hle
          injection he with he
          have hlen : len = 0 := by
            have := congrArg List.length he
            simp only [List.length_take, List.length_drop, List.length_map, List.length_nil] at this; omega
          subst hlen
          refine ⟨.slice b j 0 cap ex 1, .slice b j 0 cap ex 1, by simp [sliceV, bound], by simp [sliceV, bound], h, h⟩
        · cases he
      · cases he
  · have hpos : 0 < l.length := List.length_pos_iff.2 h0
    obtain ⟨b, j, len, cap, ex, own, els, rfl, hb, hl, hj1, hj2⟩ := h.get0 (i := 0) (by simpa using hpos)
    have hc' : len ≤ cap := hc
    rw [List.length_map] at hl
    have e1 : i ≤ cap := by omega
    have e2 : i ≤ len := by omega
    refine ⟨.slice b j i cap ex 1, .slice b (j + i) (len - i) (cap - i) ex 1, by simp [sliceV, bound, e1], by simp [sliceV, bound, e2], ⟨?_, by simp [zOk]⟩, ⟨?_, by simp [zOk]⟩⟩
    · simp only [elems, hb]
      rw [if_pos (by omega), ← take_drop_nats.1, hj2, List.take_take, Nat.min_eq_left e2]
    · simp only [elems, hb]
      rw [if_pos (by omega), ← take_drop_nats.2, hj2, List.drop_take, List.drop_drop]
/-- a row, one place, and another row behind it. -/
theorem put_app {m : Mem} {u1 u2 : V} {a b : List Nat} {p : Nat} {Q : V → Mem → Prop} (h1 : ∀ g, Sl (m ++ g) u1 1 (nats a)) (h2 : ∀ g, Sl (m ++ g) u2 1 (nats b)) (ha : a.length < 1000000) (hb : b.length < 1000000) (hQ : ∀ v g, Rg m.length g v (a ++ p :: b) → Q v (m ++ g)) :
    ∃ v1 m1, appendV (m ++ [Blk.cells true [], Blk.dead]) [V.int .i64 0] 8 (V.slice m.length 0 0 0 true 1) u1 = some (v1, m1) ∧ m1[m.length + 1]? = some Blk.dead ∧
      ∃ v2 m2, appendV (m1.set (m.length + 1) (Blk.cells true [[V.int .i64 (p : Int)]])) [V.int .i64 0] 8 v1 (V.slice (m.length + 1) 0 1 1 true 1) = some (v2, m2) ∧ ∃ v3 m3, appendV m2 [V.int .i64 0] 8 v2 u2 = some (v3, m3) ∧ Q v3 m3 := by
  have hel : ∀ x : Nat, nats [x] = [[V.int .i64 (x : Int)]] := fun _ => rfl
  have s1 : ∀ (g : Mem) (T : Nat), (m ++ g)[T]? = some (.cells true [[V.int .i64 (p : Int)]]) → Sl (m ++ g) (.slice T 0 1 1 true 1) 1 [[V.int .i64 (p : Int)]] := fun g T hT => Sl.mk (els := [[V.int .i64 (p : Int)]]) hT
  have fin : ∀ (G : Mem) (k : Nat) (c : List Nat), G[k]? = some (.cells true (nats c)) → c.length < 2000000 → G.length = k + 1 → (c ++ b = a ++ p :: b) → ∃ v3 m3, appendV (m ++ G) [V.int .i64 0] 8 (.slice (m.length + k) 0 c.length c.length false 1) u2 = some (v3, m3) ∧ Q v3 m3 := by
    intro G k c hG hc hk e
    have hGm : (m ++ G)[m.length + k]? = some (.cells true (nats c)) := by rw [List.getElem?_append_right (by omega), Nat.add_sub_cancel_left]; exact hG
    have := app_eq (n := c.length) (bytes := 8) (ex := false) (zero := [V.int .i64 0]) hGm (by simp) (h2 G) (by simp [roomy]; omega)
    rw [this]
    by_cases hb0 : b = []
    · subst hb0
      rw [if_pos (show nats [] = [] from rfl)]
      refine ⟨_, _, rfl, hQ _ _ ?_⟩
      rw [← e, List.append_nil]
      exact .inr ⟨k, c.length, false, true, nats c, rfl, Nat.le_refl _, hG, by rw [← List.length_map (f := fun p : Nat => [V.int .i64 (p : Int)]), List.take_length]⟩
    · rw [if_neg (by simpa using hb0)]
      have hs : (m ++ G).set (m.length + k) .dead = m ++ G.set k .dead := by rw [List.set_append_right _ _ (by omega), Nat.add_sub_cancel_left]
      refine ⟨_, _, rfl, ?_⟩
      rw [if_neg (by decide), hs, List.append_assoc]
      refine hQ _ _ ?_
      rw [← e]
      refine .inr ⟨G.length, (c ++ b).length, false, true, nats (c ++ b), by simp, Nat.le_refl _, by simp, by rw [← List.length_map (f := fun p : Nat => [V.int .i64 (p : Int)]), List.take_length]⟩
  have e1 := app_eq (M := m ++ [Blk.cells true [], Blk.dead]) (b := m.length) (n := 0) (bytes := 8) (ex := true) (els := []) (zero := [V.int .i64 0]) (by simp) rfl (h1 _) (by simp [roomy]; omega)
  by_cases ha0 : a = []
  · subst ha0
    rw [if_pos (show nats [] = [] from rfl)] at e1
    refine ⟨_, _, e1, by simp, ?_⟩
    have hset : (m ++ [Blk.cells true [], Blk.dead]).set (m.length + 1) (Blk.cells true [[V.int .i64 (p : Int)]]) = m ++ [Blk.cells true [], Blk.cells true [[V.int .i64 (p : Int)]]] := by rw [List.set_append_right _ _ (by omega), Nat.add_sub_cancel_left]; rfl
    rw [hset]
    have e2 := app_eq (M := m ++ [Blk.cells true [], Blk.cells true [[V.int .i64 (p : Int)]]]) (b := m.length) (n := 0) (bytes := 8) (ex := true) (els := []) (zero := [V.int .i64 0]) (by simp) rfl (s1 _ (m.length + 1) (by simp)) (by simp [roomy])
    rw [if_neg (by simp), if_pos rfl] at e2
    refine ⟨_, _, e2, ?_⟩
    have := fin ([Blk.cells true [], Blk.cells true [[V.int .i64 (p : Int)]]] ++ [.cells true (nats [p])]) 2 [p] rfl (by simp) rfl rfl
    simpa using this
  · rw [if_neg (by simpa using ha0), if_pos rfl] at e1
    refine ⟨_, _, e1, by simp, ?_⟩
    have hset : (m ++ [Blk.cells true [], Blk.dead] ++ [Blk.cells true ([] ++ nats a)]).set (m.length + 1) (Blk.cells true [[V.int .i64 (p : Int)]]) = m ++ [Blk.cells true [], Blk.cells true [[V.int .i64 (p : Int)]], .cells true (nats a)] := by
      rw [List.append_assoc, List.set_append_right _ _ (by omega), Nat.add_sub_cancel_left]; rfl
    rw [hset]
    have e2 := app_eq (M := m ++ [Blk.cells true [], Blk.cells true [[V.int .i64 (p : Int)]], .cells true (nats a)]) (b := m.length + 2) (n := a.length) (bytes := 8) (ex := false) (els := nats a) (zero := [V.int .i64 0]) (by simp) (by simp) (s1 _ (m.length + 1) (by simp)) (by simp [roomy]; omega)
    rw [if_neg (by simp), if_neg (by decide)] at e2
    have hset2 : (m ++ [Blk.cells true [], Blk.cells true [[V.int .i64 (p : Int)]], .cells true (nats a)]).set (m.length + 2) .dead = m ++ [Blk.cells true [], Blk.cells true [[V.int .i64 (p : Int)]], .dead] := by
      rw [List.set_append_right _ _ (by omega), Nat.add_sub_cancel_left]; rfl
    rw [hset2] at e2
    have hl : (m ++ [Blk.cells true [], Blk.dead]).length = m.length + 2 := by simp
    refine ⟨_, _, by simpa [hl] using e2, ?_⟩
    have := fin ([Blk.cells true [], Blk.cells true [[V.int .i64 (p : Int)]], .dead] ++ [.cells true (nats (a ++ [p]))]) 3 (a ++ [p]) rfl (by simp; omega) rfl (by simp)
    simpa using this
theorem put_spec {m : Mem} {v : V} {l : List Nat} {p : Nat} (hv : Sl m v 1 (nats l)) (hc : capOk v) (hl : l.length < 1000000) : C S n_ref31_put [v, .int .i64 (p : Nat)] m (fun r m' => ∃ g, m' = m ++ g ∧ ((r = v ∧ putN l p = l) ∨ Rg m.length g r (putN l p))) := by
  have A := (Nis.of hv).ar
  refine fn rfl ?_
  let I := fun (d : Nat) (fr : Frame) (M : Mem) => ∃ i : Nat, i ≤ l.length ∧ d = l.length - i ∧ Has fr [(0, v), (1, .int .i64 (p : Nat)), (5, .int .i64 (i : Nat))] ∧ M = m ∧ ∀ (j x : Nat), j < i → l[j]? = some x → x < p
  refine W_loop I ?_ l.length ⟨0, Nat.zero_le _, rfl, byam, rfl, fun j x hj => absurd hj (Nat.not_lt_zero _)⟩
  rintro d fr M ⟨i, hi, rfl, F, hM, hlt⟩
  obtain rfl := hM.symm
  have hlt' := PLift.up hlt
  clear hlt
  have stop : PLift ((∀ x, l[i]? = some x → ¬ x < p) → l[i]? ≠ some p → putN l p = l.take i ++ p :: l.drop i) := ⟨fun h1 h2 => by rw [putN_at hi hlt'.down h1, if_neg h2]⟩
  obtain ⟨u1, u2, h1, h2, h3, h4⟩ := Sl.parts hv hc hi
  have h3' := PLift.up h3
  have h4' := PLift.up h4
  clear h3 h4
  have omn : ∀ f : Arg → V, Option.map f none = none := fun _ => rfl
  have c0 : ∀ g : Mem, PLift (Sl (m ++ g) u1 1 (nats (l.take i)) ∧ Sl (m ++ g) u2 1 (nats (l.drop i))) := fun g => ⟨h3'.down.app, h4'.down.app⟩
  have z1 := h3'.down.2
  have z2 := h4'.down.2
  by_cases hil : i < l.length
  · have hy := nx_get hil
    have c1 : ((i : Int) < (l.length : Int)) = True := eq_true (by omega)
    have w1 : IntKind.i64.wrap ((i : Int) + 1) = ((i + 1 : Nat) : Int) := by rw [wrap_i64] <;> omega
    by_cases hlt : nx l i < p
    · have c2 : (((nx l i : Nat) : Int) < (p : Int)) = True := eq_true (by omega)
      have hlt2 := PLift.up hlt
      have hy' := PLift.up hy
      clear hlt hy
      refine into ?_
      refine ⟨_, ?_, i + 1, by omega, rfl, byam, rfl, fun j x hj hx => ?_⟩
      · omega
      · by_cases e : j = i
        · subst e; rw [hy'.down] at hx; cases hx; exact hlt2.down
        · exact hlt'.down j x (by omega) hx
    · have c2 : (((nx l i : Nat) : Int) < (p : Int)) = False := eq_false (by omega)
      by_cases he : nx l i = p
      · have c3 : (((nx l i : Nat) : Int) = (p : Int)) = True := eq_true (by omega)
        have hput : PLift (putN l p = l) := ⟨by rw [putN_at hi hlt'.down (fun x hx => by rw [hy] at hx; cases hx; exact hlt), if_pos (by rw [hy, he])]⟩
        clear hlt he hy
        refine into ?_
        exact ⟨[], by simp, .inl hput.down⟩
      · have c3 : (((nx l i : Nat) : Int) = (p : Int)) = False := eq_false (by omega)
        have hput : PLift (putN l p = l.take i ++ p :: l.drop i) := ⟨stop.down (fun x hx => by rw [hy] at hx; cases hx; exact hlt) (by rw [hy]; intro e; cases e; exact he rfl)⟩
        clear hlt he hy
        refine into ?_
        exact put_app (fun g => (c0 g).down.1) (fun g => (c0 g).down.2) (by simp; omega) (by simp; omega) fun r g hr => ⟨g, rfl, .inr (hput.down ▸ hr)⟩
  · have ei : l[i]? = none := List.getElem?_eq_none (by omega)
    have c1 : ((i : Int) < (l.length : Int)) = False := eq_false (by omega)
    have hput : PLift (putN l p = l.take i ++ p :: l.drop i) := ⟨stop.down (fun x hx => by rw [ei] at hx; cases hx) (by rw [ei]; simp)⟩
    clear ei
    refine into ?_
    exact put_app (fun g => (c0 g).down.1) (fun g => (c0 g).down.2) (by simp; omega) (by simp; omega) fun r g hr => ⟨g, rfl, .inr (hput.down ▸ hr)⟩
end Go.AM.G
