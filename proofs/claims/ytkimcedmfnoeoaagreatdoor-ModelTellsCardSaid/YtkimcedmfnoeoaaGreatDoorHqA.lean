/- Places as sets that rise: plain laws; put, and where an address is. -/
import Derived.Test.YtkimcedmfnoeoaaGreatDoorHpX
set_option linter.unusedVariables false
set_option linter.unusedSimpArgs false
set_option maxRecDepth 100000
namespace Go.AM.G
open Go Go.AM
def putN : List Nat → Nat → List Nat
 | [], p => [p]
 | a :: l, p => if a < p then a :: putN l p else if a = p then a :: l else p :: a :: l
theorem mem_putN {p x : Nat} : ∀ {l : List Nat}, x ∈ putN l p ↔ x = p ∨ x ∈ l
 | [] => by simp [putN]
 | a :: l => by
  unfold putN
  split
  ·rw [List.mem_cons, mem_putN (l := l), List.mem_cons]
   exact ⟨fun h => by rcases h with h | h | h <;> simp [h], fun h => by rcases h with h | h | h <;> simp [h]⟩
  ·split
   ·rename_i h; subst h; simp
   ·simp
theorem putN_sorted {p : Nat} : ∀ {l : List Nat}, l.Pairwise (· < ·) → (putN l p).Pairwise (· < ·)
 | [], _ => by simp [putN]
 | a :: l, h => by
  unfold putN
  rw [List.pairwise_cons] at h
  split
  ·rename_i hap
   rw [List.pairwise_cons]
   refine ⟨fun x hx => ?_, putN_sorted h.2⟩
   rcases mem_putN.1 hx with rfl | hx
   ·exact hap
   ·exact h.1 x hx
  ·split
   ·exact List.pairwise_cons.2 h
   ·rw [List.pairwise_cons, List.pairwise_cons]
    refine ⟨fun x hx => ?_, h⟩
    rcases List.mem_cons.1 hx with rfl | hx
    ·omega
    ·have := h.1 x hx; omega
theorem putN_at {p : Nat} : ∀ {l : List Nat} {i : Nat}, i ≤ l.length → (∀ (j x : Nat), j < i → l[j]? = some x → x < p) → (∀ x, l[i]? = some x → ¬ x < p) → putN l p = if l[i]? = some p then l else l.take i ++ p :: l.drop i
 | [], i, h, _, _ => by
  have : i = 0 := by simpa using h
  subst this; simp [putN]
 | a :: l, 0, _, _, h => by
  have h1 := h a rfl
  unfold putN
  rw [if_neg h1]
  simp
 | a :: l, i + 1, hi, h1, h2 => by
  have h3 := h1 0 a (by omega) rfl
  have ih := putN_at (p := p) (l := l) (i := i) (by simpa using hi) (fun j x hj hx => h1 (j + 1) x (by omega) (by simpa using hx)) (fun x hx => h2 x (by simpa using hx))
  unfold putN
  rw [if_pos h3, ih]
  simp only [List.getElem?_cons_succ, List.take_succ_cons, List.drop_succ_cons]
  split <;> simp
theorem rise_ext : ∀ {l k : List Nat}, l.Pairwise (· < ·) → k.Pairwise (· < ·) → (∀ x, x ∈ l ↔ x ∈ k) → l = k
 | [], [], _, _, _ => rfl
 | [], b :: k, _, _, h => by have := (h b).2 (by simp); simp at this
 | a :: l, [], _, _, h => by have := (h a).1 (by simp); simp at this
 | a :: l, b :: k, h1, h2, h => by
  rw [List.pairwise_cons] at h1 h2
  have e : a = b := by
   rcases List.mem_cons.1 ((h a).1 (by simp)) with e | ha
   ·exact e
   ·rcases List.mem_cons.1 ((h b).2 (by simp)) with e | hb
    ·exact e.symm
    ·have := h1.1 b hb; have := h2.1 a ha; omega
  subst e
  congr 1
  refine rise_ext h1.2 h2.2 fun x => ?_
  constructor
  ·intro hx
   rcases List.mem_cons.1 ((h x).1 (List.mem_cons_of_mem _ hx)) with e | hk
   ·have := h1.1 x hx; omega
   ·exact hk
  ·intro hx
   rcases List.mem_cons.1 ((h x).2 (List.mem_cons_of_mem _ hx)) with e | hk
   ·have := h2.1 x hx; omega
   ·exact hk
def cl : List Nat → List Nat
 | [] => []
 | [a] => [a]
 | a :: b :: r => if a = b then cl (b :: r) else a :: cl (b :: r)
abbrev nats (l : List Nat) : List (List V) := l.map fun p : Nat => [V.int .i64 (p : Int)]
def nx (l : List Nat) (i : Nat) : Nat := l.getD i 0
theorem nx_get {l : List Nat} {i : Nat} (h : i < l.length) : l[i]? = some (nx l i) := by simp [nx, List.getD_eq_getElem?_getD, h]
theorem map_nx {α : Type} {f : Nat → α} {l : List Nat} : l.map f = (List.range l.length).map fun i => f (nx l i) := by
 apply List.ext_getElem?
 intro i
 simp only [List.getElem?_map, List.getElem?_range]
 by_cases h : i < l.length
 ·rw [nx_get h]; simp [h]
 ·simp [h]
abbrev Nus (m : Mem) (v : V) (l : List Nat) : Prop := Rd m v 1 l.length (fun i => [.int .u64 (nx l i : Nat)])
abbrev Nis (m : Mem) (v : V) (l : List Nat) : Prop := Rd m v 1 l.length (fun i => [.int .i64 (nx l i : Nat)])
theorem Nis.of {m : Mem} {v : V} {l : List Nat} (h : Sl m v 1 (nats l)) : Nis m v l := .inl (map_nx (f := fun p : Nat => [V.int .i64 (p : Int)]) (l := l) ▸ h)
theorem Nus.of {m : Mem} {v : V} {l : List Nat} (h : Sl m v 1 (u64l l)) : Nus m v l := .inl (map_nx (f := fun p : Nat => [V.int .u64 (p : Int)]) (l := l) ▸ h)
theorem nx_mem {l : List Nat} {i : Nat} (h : i < l.length) : nx l i ∈ l := List.mem_of_getElem? (nx_get h)
theorem nx_of {l : List Nat} {a : Nat} (h : a ∈ l) : ∃ i, i < l.length ∧ nx l i = a := by
 obtain ⟨i, hi, e⟩ := List.getElem_of_mem h
 exact ⟨i, hi, by simp [nx, List.getD_eq_getElem?_getD, hi, e]⟩
theorem nx_rise {l : List Nat} (h : l.Pairwise (· < ·)) {p q : Nat} (hp : p < q) (hq : q < l.length) : nx l p < nx l q := by
 have := List.pairwise_iff_getElem.1 h p q (by omega) hq hp
 simpa [nx, List.getD_eq_getElem?_getD, hq, show p < l.length by omega] using this
end Go.AM.G
set_option maxRecDepth 100000
namespace Go.AM.G
open Go Go.AM
theorem isNaN2_spec {m : Mem} {a : Nat} : C S n_slices_isNaN_uint64 [.int .u64 (a : Nat)] m (fun r m' => r = .bool false ∧ Grow m m') := by
 have G := Grow.refl m
 refine fn rfl ?_
 trivial
theorem Less_spec {m : Mem} {a b : Nat} : C S n_cmp_Less_uint64 [.int .u64 (a : Nat), .int .u64 (b : Nat)] m (fun r m' => r = .bool (decide (a < b)) ∧ Grow m m') := by
 have e : decide (a < b) = decide ((a : Int) < (b : Int)) := decide_eq_decide.2 (by omega)
 rw [e]
 refine fn rfl ?_
 refine isNaN_spec.mono ?_
 rintro _ _ ⟨rfl, ⟨g1, rfl⟩⟩
 refine am ?_
 exact ⟨_, rfl⟩
end Go.AM.G
