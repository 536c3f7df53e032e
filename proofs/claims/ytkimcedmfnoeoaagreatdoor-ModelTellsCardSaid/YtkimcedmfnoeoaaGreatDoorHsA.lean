/- Go's sort of whole words on the abstract machine is the plain one of the kit. -/
import Derived.Test.YtkimcedmfnoeoaaGreatDoorHpA
import Derived.Sort.AssemblyPlain
set_option linter.unusedVariables false
set_option linter.unusedSimpArgs false
set_option maxRecDepth 100000
namespace Go.AM.G
open Go Go.AM
abbrev AN := Array Nat
def ltN (x y : Nat) : Bool := decide (x < y)
def rowA (d : AN) (r : List (List V)) : List (List V) := (d.toList.map fun x => [V.int .u64 (x : Nat)]) ++ r
theorem rowA_get {d : AN} {r : List (List V)} {i : Nat} (h : i < d.size) : (rowA d r)[i]? = some [V.int .u64 (d[i]! : Nat)] := by
 unfold rowA
 rw [List.getElem?_append_left (by simpa using h), List.getElem?_map, Array.getElem?_toList, Array.getElem?_eq_getElem h, getElem!_pos d i h]
 rfl
theorem rowA_load (d : AN) (r : List (List V)) (i : Nat) (h : i < d.size) : loadB (some (.cells true (rowA d r))) none i 0 = some (.int .u64 (d[i]! : Nat)) := by
 unfold loadB
 dsimp only
 rw [rowA_get h]
 rfl
theorem rowA_store (d : AN) (r : List (List V)) (i x : Nat) (h : i < d.size) : storeB (some (.cells true (rowA d r))) 1 i 0 (.int .u64 (x : Nat)) = some (.cells true (rowA (d.setIfInBounds i x) r)) := by
 unfold storeB
 dsimp only
 rw [rowA_get h]
 have e : (rowA d r).set i (splice [V.int .u64 (d[i]! : Nat)] 0 (V.int .u64 (x : Nat)).cells) = rowA (d.setIfInBounds i x) r := by
  unfold rowA
  rw [List.set_append_left _ _ (by simpa using h)]
  congr 1
  rw [Array.toList_setIfInBounds, List.map_set]
  rfl
 rw [← e]
 rfl
theorem rowA_size (d : AN) (i x : Nat) : (d.setIfInBounds i x).size = d.size := by simp
theorem swp_size (d : AN) (i j : Nat) : (Sort.swp d i j).size = d.size := by simp [Sort.swp]
theorem ix_at {b n cap : Nat} {ex : Bool} (i : Nat) (h : i < n) : asIndex 1 (.slice b 0 n cap ex 1) (.int .i64 (i : Nat)) = some (.ptr b i 0) := by
 unfold asIndex
 simp [h]
structure Pl (Mm : Blk → Mem) (b : Nat) : Prop where
 get : ∀ X g, (Mm X ++ g)[b]? = some X
 set : ∀ X Y g, (Mm X ++ g).set b Y = Mm Y ++ g
theorem Pl.app {Mm : Blk → Mem} {b : Nat} (h : Pl Mm b) (g : Mem) : Pl (fun X => Mm X ++ g) b := ⟨fun X g' => by rw [List.append_assoc]; exact h.get X _, fun X Y g' => by rw [List.append_assoc, h.set, ← List.append_assoc]⟩
theorem Pl.of {m : Mem} {b : Nat} (h : b < m.length) : Pl (fun X => m.set b X) b := ⟨fun X g => by rw [List.getElem?_append_left (by simpa using h)]; simp [h], fun X Y g => by rw [List.set_append_left _ _ (by simpa using h)]; simp⟩
theorem isNaNS_spec {m : Mem} {x : Nat} : C S n_cmp_isNaN_uint64 [.int .u64 (x : Nat)] m (fun r m' => r = .bool false ∧ m' = m) := by
 have e : ((x : Int) = (x : Int)) = True := eq_true rfl
 refine fn rfl ?_
 trivial
theorem LessS_spec {m : Mem} {x y : Nat} : C S n_cmp_Less_uint64 [.int .u64 (x : Nat), .int .u64 (y : Nat)] m (fun r m' => r = .bool (ltN x y) ∧ m' = m) := by
 refine fn rfl ?_
 refine isNaNS_spec.mono ?_
 rintro _ _ ⟨rfl, rfl⟩
 refine am ?_
 simp [ltN]
theorem ins_stop {a j : Nat} {d : AN} (h : ¬ a < j) : Sort.insInner ltN a j d = d := by
 cases j with
 | zero => rfl
 | succ j => rw [Sort.insInner]; simp [h]
section
variable {Mm : Blk → Mem} {b n cap : Nat} {ex : Bool} {r : List (List V)} {g : Mem}
abbrev sv (b n cap : Nat) (ex : Bool) : V := .slice b 0 n cap ex 1
abbrev at_ (Mm : Blk → Mem) (r : List (List V)) (d : AN) : Mem := Mm (.cells true (rowA d r))
theorem ins_spec (h : Pl Mm b) {d : AN} (hd : d.size = n) {a c : Nat} (hac : a ≤ c) (hc : c ≤ n) (hn : n < 100000000000000000) :
  C S n_slices_insertionSortOrdered_uint64 [sv b n cap ex, .int .i64 (a : Nat), .int .i64 (c : Nat)] (at_ Mm r d) (fun v m' => v = .tup [] ∧ m' = at_ Mm r (Sort.insertionSort ltN d a c)) := by
 have i1 := rowA_load
 have i2 := rowA_store
 have i3 := @ix_at b n cap ex
 have i4 := rowA_size
 have hg0 : ∀ X, (Mm X)[b]? = some X := fun X => by have := h.get X []; simpa using this
 have hs0 : ∀ X Y, (Mm X).set b Y = Mm Y := fun X Y => by have := h.set X Y []; simpa using this
 have w0 : IntKind.i64.wrap ((a : Int) + 1) = ((a + 1 : Nat) : Int) := by rw [wrap_i64] <;> omega
 have h' := PLift.up h
 clear h
 refine fn rfl ?_
 let I := fun (k : Nat) (fr : Frame) (M : Mem) => ∃ (i : Nat) (d' : AN), k = n + 1 - i ∧ d'.size = n ∧ i ≤ n + 1 ∧ Sort.insOuter ltN a c i d' = Sort.insertionSort ltN d a c ∧ Has fr [(0, sv b n cap ex), (1, .int .i64 (a : Nat)), (2, .int .i64 (c : Nat)), (6, .int .i64 (i : Nat))] ∧ M = at_ Mm r d'
 refine W_loop I ?_ (n + 1 - (a + 1)) ⟨a + 1, d, rfl, hd, by omega, rfl, byam, rfl⟩
 rintro k fr _ ⟨i, d', rfl, hd', hi, hq, F, rfl⟩
 have hq' := PLift.up hq
 clear hq
 by_cases hlt : i < c
 case neg =>
  have c1 : ((i : Int) < (c : Int)) = False := eq_false (by omega)
  refine into ?_
  have := hq'.down
  rw [Sort.insOuter, if_neg hlt] at this
  rw [this]
 have c1 : ((i : Int) < (c : Int)) = True := eq_true (by omega)
 refine into ?_
 let I2 := fun (j : Nat) (fr : Frame) (M : Mem) => ∃ d2 : AN, d2.size = n ∧ j ≤ i ∧ Sort.insInner ltN a j d2 = Sort.insInner ltN a i d' ∧ Has fr [(0, sv b n cap ex), (1, .int .i64 (a : Nat)), (2, .int .i64 (c : Nat)), (6, .int .i64 (i : Nat)), (7, .int .i64 (j : Nat))] ∧ M = at_ Mm r d2
 refine W_loop I2 ?_ i ⟨d', hd', Nat.le_refl _, rfl, byam, rfl⟩
 rintro j fr _ ⟨d2, hd2, hj, hq2, F, rfl⟩
 have hq2' := PLift.up hq2
 clear hq2
 have w1 : IntKind.i64.wrap ((i : Int) + 1) = ((i + 1 : Nat) : Int) := by rw [wrap_i64] <;> omega
 have next : PLift (Sort.insOuter ltN a c (i + 1) (Sort.insInner ltN a i d') = Sort.insertionSort ltN d a c) := ⟨by
  have := hq'.down
  rw [Sort.insOuter, if_pos hlt] at this
  exact this⟩
 by_cases haj : a < j
 case neg =>
  have c2 : ((a : Int) < (j : Int)) = False := eq_false (by omega)
  refine into ?_
  refine ⟨n + 1 - (i + 1), by omega, i + 1, d2, rfl, hd2, by omega, ?_, byam, rfl⟩
  have := next.down
  rw [← hq2'.down, ins_stop haj] at this
  exact this
 obtain ⟨j, rfl⟩ : ∃ j', j = j' + 1 := ⟨j - 1, by omega⟩
 have c2 : ((a : Int) < ((j + 1 : Nat) : Int)) = True := eq_true (by omega)
 have w2 : IntKind.i64.wrap (((j + 1 : Nat) : Int) - 1) = (j : Int) := by rw [wrap_i64] <;> omega
 have l1 : j + 1 < n := by omega
 have l2 : j < n := by omega
 have l3 : j + 1 < d2.size := by omega
 have l4 : j < d2.size := by omega
 have hu : PLift (Sort.insInner ltN a (j + 1) d2 = if ltN d2[j + 1]! d2[j]! = true then Sort.insInner ltN a j (Sort.swp d2 (j + 1) j) else d2) := ⟨by
  rw [Sort.insInner]
  simp [haj]⟩
 refine into ?_
 refine LessS_spec.mono ?_
 rintro _ _ ⟨rfl, rfl⟩
 cases hl : ltN d2[j + 1]! d2[j]! with
 | false =>
  refine am ?_
  refine ⟨n + 1 - (i + 1), by omega, i + 1, d2, rfl, hd2, by omega, ?_, byam, rfl⟩
  have := next.down
  rw [← hq2'.down, hu.down, hl] at this
  exact this
 | true =>
  refine am ?_
  refine ⟨j, by omega, Sort.swp d2 (j + 1) j, ?_, by omega, ?_, byam, rfl⟩
  ·rw [swp_size]; exact hd2
  ·rw [← hq2'.down, hu.down, hl]; rfl
end
end Go.AM.G
set_option maxRecDepth 100000
namespace Go.AM.G
open Go Go.AM
theorem sift_stop {hi first root : Nat} {d : AN} (h : hi ≤ 2 * root + 1) : Sort.siftDown ltN hi first root d = d := by
 rw [Sort.siftDown, dif_pos h]
theorem sift_two {hi first root : Nat} {d : AN} (h : 2 * root + 2 < hi) (hl : ltN d[first + (2 * root + 1)]! d[first + (2 * root + 1) + 1]! = true) :
  Sort.siftDown ltN hi first root d = if ltN d[first + root]! d[first + (2 * root + 2)]! = true then Sort.siftDown ltN hi first (2 * root + 2) (Sort.swp d (first + root) (first + (2 * root + 2))) else d := by
 rw [Sort.siftDown, dif_neg (by omega)]
 have e : (2 * root + 1 + 1 < hi) = True := eq_true (by omega)
 simp only [e, hl, decide_true, Bool.and_self, if_true, h, dite_true]
 cases ltN d[first + root]! d[first + (2 * root + 2)]! <;> simp
theorem sift_one {hi first root : Nat} {d : AN} (h : 2 * root + 1 < hi) (hl : 2 * root + 2 < hi → ltN d[first + (2 * root + 1)]! d[first + (2 * root + 1) + 1]! = false) :
  Sort.siftDown ltN hi first root d = if ltN d[first + root]! d[first + (2 * root + 1)]! = true then Sort.siftDown ltN hi first (2 * root + 1) (Sort.swp d (first + root) (first + (2 * root + 1))) else d := by
 rw [Sort.siftDown, dif_neg (by omega)]
 have e : (decide (2 * root + 1 + 1 < hi) && ltN d[first + (2 * root + 1)]! d[first + (2 * root + 1) + 1]!) = false := by
  by_cases h2 : 2 * root + 2 < hi
  ·rw [hl h2]; simp
  ·simp only [Bool.and_eq_false_imp, decide_eq_true_eq]; intro h3; omega
 rw [if_neg (by rw [e]; decide)]
 cases ltN d[first + root]! d[first + (2 * root + 1)]! <;> simp
section
variable {Mm : Blk → Mem} {b n cap : Nat} {ex : Bool} {r : List (List V)}
theorem sift_spec (h : Pl Mm b) {d : AN} (hd : d.size = n) {hi first root : Nat} (hf : first + hi ≤ n) (hr : root ≤ n) (hn : n < 100000000000000000) :
  C S n_slices_siftDownOrdered_uint64 [sv b n cap ex, .int .i64 (root : Nat), .int .i64 (hi : Nat), .int .i64 (first : Nat)] (at_ Mm r d) (fun v m' => v = .tup [] ∧ m' = at_ Mm r (Sort.siftDown ltN hi first root d)) := by
 have i1 := rowA_load
 have i2 := rowA_store
 have i3 := @ix_at b n cap ex
 have i4 := rowA_size
 have hg0 : ∀ X, (Mm X)[b]? = some X := fun X => by have := h.get X []; simpa using this
 have hs0 : ∀ X Y, (Mm X).set b Y = Mm Y := fun X Y => by have := h.set X Y []; simpa using this
 have h' := PLift.up h
 clear h
 refine fn rfl ?_
 let I := fun (k : Nat) (fr : Frame) (M : Mem) => ∃ (i : Nat) (d' : AN), k = n + 1 - i ∧ d'.size = n ∧ i ≤ n ∧ Sort.siftDown ltN hi first i d' = Sort.siftDown ltN hi first root d ∧ Has fr [(0, sv b n cap ex), (2, .int .i64 (hi : Nat)), (3, .int .i64 (first : Nat)), (8, .int .i64 (i : Nat))] ∧ M = at_ Mm r d'
 refine W_loop I ?_ (n + 1 - root) ⟨root, d, rfl, hd, hr, rfl, byam, rfl⟩
 rintro k fr _ ⟨i, d', rfl, hd', hin, hq, F, rfl⟩
 have hq' := PLift.up hq
 clear hq
 have e1 : IntKind.i64.wrap (2 * (i : Int)) = ((2 * i : Nat) : Int) := by rw [wrap_i64] <;> omega
 have e2 : IntKind.i64.wrap (((2 * i : Nat) : Int) + 1) = ((2 * i + 1 : Nat) : Int) := by rw [wrap_i64] <;> omega
 by_cases hlt : 2 * i + 1 < hi
 case neg =>
  have c1 : ((hi : Int) ≤ ((2 * i + 1 : Nat) : Int)) = True := eq_true (by omega)
  refine into ?_
  rw [← hq'.down, sift_stop (by omega)]
 have c1 : ((hi : Int) ≤ ((2 * i + 1 : Nat) : Int)) = False := eq_false (by omega)
 have e3 : IntKind.i64.wrap (((2 * i + 1 : Nat) : Int) + 1) = ((2 * i + 2 : Nat) : Int) := by rw [wrap_i64] <;> omega
 have e4 : IntKind.i64.wrap ((first : Int) + ((2 * i + 1 : Nat) : Int)) = ((first + (2 * i + 1) : Nat) : Int) := by rw [wrap_i64] <;> omega
 have e5 : IntKind.i64.wrap (((first + (2 * i + 1) : Nat) : Int) + 1) = ((first + (2 * i + 1) + 1 : Nat) : Int) := by rw [wrap_i64] <;> omega
 have e6 : IntKind.i64.wrap ((first : Int) + (i : Int)) = ((first + i : Nat) : Int) := by rw [wrap_i64] <;> omega
 have e7 : IntKind.i64.wrap ((first : Int) + ((2 * i + 2 : Nat) : Int)) = ((first + (2 * i + 2) : Nat) : Int) := by rw [wrap_i64] <;> omega
 have l1 : first + (2 * i + 1) < n := by omega
 have l2 : first + i < n := by omega
 have l1' : first + (2 * i + 1) < d'.size := by omega
 have l2' : first + i < d'.size := by omega
 have one : (2 * i + 2 < hi → ltN d'[first + (2 * i + 1)]! d'[first + (2 * i + 1) + 1]! = false) → PLift (Sort.siftDown ltN hi first i d' = if ltN d'[first + i]! d'[first + (2 * i + 1)]! = true then Sort.siftDown ltN hi first (2 * i + 1) (Sort.swp d' (first + i) (first + (2 * i + 1))) else d') := fun hl => ⟨sift_one hlt hl⟩
 have one' := PLift.up one
 clear one
 by_cases h2 : 2 * i + 2 < hi
 case neg =>
  have c2 : (((2 * i + 2 : Nat) : Int) < (hi : Int)) = False := eq_false (by omega)
  have hu := one'.down (fun h => absurd h h2)
  clear one'
  refine into ?_
  refine into ?_
  refine LessS_spec.mono ?_
  rintro _ _ ⟨rfl, rfl⟩
  cases hl : ltN d'[first + i]! d'[first + (2 * i + 1)]! with
  | false =>
   refine am ?_
   rw [← hq'.down, hu.down, hl]; rfl
  | true =>
   refine am ?_
   refine ⟨n + 1 - (2 * i + 1), by omega, 2 * i + 1, Sort.swp d' (first + i) (first + (2 * i + 1)), rfl, by rw [swp_size]; exact hd', by omega, ?_, byam, rfl⟩
   rw [← hq'.down, hu.down, hl]; rfl
 have c2 : (((2 * i + 2 : Nat) : Int) < (hi : Int)) = True := eq_true (by omega)
 have l3 : first + (2 * i + 1) + 1 < n := by omega
 have l3' : first + (2 * i + 1) + 1 < d'.size := by omega
 have l4 : first + (2 * i + 2) < n := by omega
 have l4' : first + (2 * i + 2) < d'.size := by omega
 have two : ltN d'[first + (2 * i + 1)]! d'[first + (2 * i + 1) + 1]! = true → PLift (Sort.siftDown ltN hi first i d' = if ltN d'[first + i]! d'[first + (2 * i + 2)]! = true then Sort.siftDown ltN hi first (2 * i + 2) (Sort.swp d' (first + i) (first + (2 * i + 2))) else d') := fun hl => ⟨sift_two h2 hl⟩
 have two' := PLift.up two
 clear two
 refine into ?_
 refine LessS_spec.mono ?_
 rintro _ _ ⟨rfl, rfl⟩
 cases hl0 : ltN d'[first + (2 * i + 1)]! d'[first + (2 * i + 1) + 1]! with
 | false =>
  have hu := one'.down (fun _ => hl0)
  clear one' two'
  refine am ?_
  refine into ?_
  refine LessS_spec.mono ?_
  rintro _ _ ⟨rfl, rfl⟩
  cases hl : ltN d'[first + i]! d'[first + (2 * i + 1)]! with
  | false =>
   refine am ?_
   rw [← hq'.down, hu.down, hl]; rfl
  | true =>
   refine am ?_
   refine ⟨n + 1 - (2 * i + 1), by omega, 2 * i + 1, Sort.swp d' (first + i) (first + (2 * i + 1)), rfl, by rw [swp_size]; exact hd', by omega, ?_, byam, rfl⟩
   rw [← hq'.down, hu.down, hl]; rfl
 | true =>
  have hu := two'.down hl0
  clear one' two'
  refine am ?_
  refine into ?_
  refine LessS_spec.mono ?_
  rintro _ _ ⟨rfl, rfl⟩
  cases hl : ltN d'[first + i]! d'[first + (2 * i + 2)]! with
  | false =>
   refine am ?_
   rw [← hq'.down, hu.down, hl]; rfl
  | true =>
   refine am ?_
   refine ⟨n + 1 - (2 * i + 2), by omega, 2 * i + 2, Sort.swp d' (first + i) (first + (2 * i + 2)), rfl, by rw [swp_size]; exact hd', by omega, ?_, byam, rfl⟩
   rw [← hq'.down, hu.down, hl]; rfl
end
end Go.AM.G
set_option maxRecDepth 100000
namespace Go.AM.G
open Go Go.AM
def dn (k : Nat) : Int := (k : Int) - 1
theorem sift_size {hi first root : Nat} {d : AN} : (Sort.siftDown ltN hi first root d).size = d.size := by
 fun_induction Sort.siftDown ltN hi first root d <;> simp_all [Sort.swp]
theorem build_size {hi first : Nat} : ∀ (k : Nat) (d : AN), (Sort.heapBuild ltN hi first k d).size = d.size
 | 0, _ => rfl
 | k + 1, d => by rw [Sort.heapBuild, build_size k, sift_size]
theorem pop_size {first : Nat} : ∀ (k : Nat) (d : AN), (Sort.heapPop ltN first k d).size = d.size
 | 0, _ => rfl
 | k + 1, d => by rw [Sort.heapPop, pop_size k, sift_size, swp_size]
section
variable {Mm : Blk → Mem} {b n cap : Nat} {ex : Bool} {r : List (List V)}
theorem heap_spec (h : Pl Mm b) {d : AN} (hd : d.size = n) {a c : Nat} (hac : a < c) (hc : c ≤ n) (hn : n < 100000000000000000) :
  C S n_slices_heapSortOrdered_uint64 [sv b n cap ex, .int .i64 (a : Nat), .int .i64 (c : Nat)] (at_ Mm r d) (fun v m' => v = .tup [] ∧ m' = at_ Mm r (Sort.heapSort ltN d a c)) := by
 have i1 := rowA_load
 have i2 := rowA_store
 have i3 := @ix_at b n cap ex
 have i4 := rowA_size
 have hg0 : ∀ X, (Mm X)[b]? = some X := fun X => by have := h.get X []; simpa using this
 have hs0 : ∀ X Y, (Mm X).set b Y = Mm Y := fun X Y => by have := h.set X Y []; simpa using this
 have h' := PLift.up h
 clear h
 obtain ⟨hi, ehi⟩ : ∃ hi, c - a = hi := ⟨_, rfl⟩
 have w0 : IntKind.i64.wrap ((c : Int) - (a : Int)) = (hi : Int) := by rw [wrap_i64] <;> omega
 have w1 : IntKind.i64.wrap ((hi : Int) - 1) = dn hi := by unfold dn; rw [wrap_i64] <;> omega
 have w2 : (dn hi).tdiv 2 = (((hi - 1) / 2 : Nat) : Int) := by
  have e : dn hi = ((hi - 1 : Nat) : Int) := by unfold dn; omega
  rw [e]; exact tdivN (b := 2)
 have w3 : IntKind.i64.wrap (((hi - 1) / 2 : Nat) : Int) = (((hi - 1) / 2 : Nat) : Int) := by rw [wrap_i64] <;> omega
 have c0 : ((2 : Int) = 0) = False := by decide
 refine fn rfl ?_
 have q0 : PLift (Sort.heapSort ltN d a c = Sort.heapPop ltN a hi (Sort.heapBuild ltN hi a ((hi - 1) / 2 + 1) d)) := ⟨by rw [Sort.heapSort, ehi]⟩
 have d0 : ∀ k : Nat, dn (k + 1) = (k : Int) := fun k => by unfold dn; omega
 have c1 : ∀ k : Nat, ((0 : Int) ≤ (k : Int)) = True := fun k => eq_true (by omega)
 have c2 : ((0 : Int) ≤ dn 0) = False := eq_false (by unfold dn; omega)
 let I := fun (k : Nat) (fr : Frame) (M : Mem) => ∃ d' : AN, d'.size = n ∧ k ≤ (hi - 1) / 2 + 1 ∧ Sort.heapPop ltN a hi (Sort.heapBuild ltN hi a k d') = Sort.heapSort ltN d a c ∧ Has fr [(0, sv b n cap ex), (1, .int .i64 (a : Nat)), (2, .int .i64 (c : Nat)), (6, .int .i64 (a : Nat)), (7, .int .i64 0), (8, .int .i64 (hi : Nat)), (9, .int .i64 (dn k))] ∧ M = at_ Mm r d'
 refine W_loop I ?_ ((hi - 1) / 2 + 1) ⟨d, hd, Nat.le_refl _, q0.down.symm, byam, rfl⟩
 rintro k fr _ ⟨d', hd', hk, hq, F, rfl⟩
 have hq' := PLift.up hq
 clear hq
 cases k with
 | zero =>
  refine into ?_
  let I2 := fun (k : Nat) (fr : Frame) (M : Mem) => ∃ d2 : AN, d2.size = n ∧ k ≤ hi ∧ Sort.heapPop ltN a k d2 = Sort.heapSort ltN d a c ∧ Has fr [(0, sv b n cap ex), (6, .int .i64 (a : Nat)), (7, .int .i64 0), (10, .int .i64 (dn k))] ∧ M = at_ Mm r d2
  refine W_loop I2 ?_ hi ⟨d', hd', Nat.le_refl _, hq'.down, byam, rfl⟩
  rintro k fr _ ⟨d2, hd2, hk2, hq2, F, rfl⟩
  have hq2' := PLift.up hq2
  clear hq2
  cases k with
  | zero =>
   refine into ?_
   rw [← hq2'.down]; rfl
  | succ k =>
   have e1 : IntKind.i64.wrap ((a : Int) + (k : Int)) = ((a + k : Nat) : Int) := by rw [wrap_i64] <;> omega
   have e2 : IntKind.i64.wrap ((k : Int) - 1) = dn k := by unfold dn; rw [wrap_i64] <;> omega
   have l1 : a < n := by omega
   have l2 : a + k < n := by omega
   have l1' : a < d2.size := by omega
   have l2' : a + k < d2.size := by omega
   refine into ?_
   refine (sift_spec (root := 0) (d := Sort.swp d2 a (a + k)) h'.down (by rw [swp_size]; exact hd2) (by omega) (by omega) hn).mono ?_
   rintro _ _ ⟨rfl, rfl⟩
   refine am ?_
   refine ⟨k, by omega, Sort.siftDown ltN k a 0 (Sort.swp d2 a (a + k)), by rw [sift_size, swp_size]; exact hd2, by omega, ?_, byam, rfl⟩
   rw [← hq2'.down]; rfl
 | succ k =>
  have e2 : IntKind.i64.wrap ((k : Int) - 1) = dn k := by unfold dn; rw [wrap_i64] <;> omega
  refine into ?_
  refine (sift_spec (root := k) (d := d') h'.down hd' (by omega) (by omega) hn).mono ?_
  rintro _ _ ⟨rfl, rfl⟩
  refine am ?_
  refine ⟨k, by omega, Sort.siftDown ltN hi a k d', by rw [sift_size]; exact hd', by omega, ?_, byam, rfl⟩
  rw [← hq'.down]; rfl
end
end Go.AM.G
set_option maxRecDepth 100000
namespace Go.AM.G
open Go Go.AM
structure Pq (Nn : Blk → Mem) (b q : Nat) (X : Blk) : Prop where
 row : ∀ Y, (Nn Y)[b]? = some X
 get : ∀ Y, (Nn Y)[q]? = some Y
 set : ∀ Y Z, (Nn Y).set q Z = Nn Z
abbrev ctr (s : Nat) : Blk := .cells true [[.int .i64 (s : Nat)]]
theorem ctr_load (s : Nat) : loadB (some (ctr s)) none 0 0 = some (.int .i64 (s : Nat)) := rfl
theorem ctr_store (s t : Nat) : storeB (some (ctr s)) 1 0 0 (.int .i64 (t : Nat)) = some (ctr t) := rfl
section
variable {Nn : Blk → Mem} {b q n cap : Nat} {ex : Bool} {r : List (List V)} {d : AN}
theorem order2_spec (h : Pq Nn b q (.cells true (rowA d r))) (hd : d.size = n) {i j s : Nat} (hi : i < n) (hj : j < n) (hs : s < 1000) :
  C S n_slices_order2Ordered_uint64 [sv b n cap ex, .int .i64 (i : Nat), .int .i64 (j : Nat), .ptr q 0 0] (Nn (ctr s)) (fun v m' => v = .tup [.int .i64 ((Sort.order2 ltN d i j s).1 : Nat), .int .i64 ((Sort.order2 ltN d i j s).2.1 : Nat)] ∧ m' = Nn (ctr (Sort.order2 ltN d i j s).2.2)) := by
 have i1 := rowA_load
 have i3 := @ix_at b n cap ex
 have hrow := h.row
 have hget := h.get
 have hset := h.set
 have k1 := ctr_load
 have k2 := ctr_store
 have h' := PLift.up h
 clear h
 have l1 : i < d.size := by omega
 have l2 : j < d.size := by omega
 have w1 : IntKind.i64.wrap ((s : Int) + 1) = ((s + 1 : Nat) : Int) := by rw [wrap_i64] <;> omega
 refine fn rfl ?_
 refine LessS_spec.mono ?_
 rintro _ _ ⟨rfl, rfl⟩
 cases hl : ltN d[j]! d[i]! with
 | true =>
  have e : PLift (Sort.order2 ltN d i j s = (j, i, s + 1)) := ⟨by rw [Sort.order2, if_pos hl]⟩
  refine am ?_
  rw [e.down]; exact ⟨rfl, rfl⟩
 | false =>
  have e : PLift (Sort.order2 ltN d i j s = (i, j, s)) := ⟨by rw [Sort.order2, if_neg (by rw [hl]; decide)]⟩
  refine am ?_
  rw [e.down]; exact ⟨rfl, rfl⟩
theorem order2_of {d : AN} {i j s : Nat} {P : Nat → Prop} (h1 : P i) (h2 : P j) : P (Sort.order2 ltN d i j s).1 ∧ P (Sort.order2 ltN d i j s).2.1 ∧ (Sort.order2 ltN d i j s).2.2 ≤ s + 1 := by
 unfold Sort.order2
 split
 ·exact ⟨h2, h1, Nat.le_refl _⟩
 ·exact ⟨h1, h2, Nat.le_succ _⟩
theorem median_spec (h : Pq Nn b q (.cells true (rowA d r))) (hd : d.size = n) {i j k s : Nat} (hi : i < n) (hj : j < n) (hk : k < n) (hs : s < 900) :
  C S n_slices_medianOrdered_uint64 [sv b n cap ex, .int .i64 (i : Nat), .int .i64 (j : Nat), .int .i64 (k : Nat), .ptr q 0 0] (Nn (ctr s)) (fun v m' => v = .int .i64 ((Sort.median ltN d i j k s).1 : Nat) ∧ m' = Nn (ctr (Sort.median ltN d i j k s).2)) := by
 have h' := PLift.up h
 have a1 := @order2_of d i j s (· < n) hi hj
 have a2 := @order2_of d (Sort.order2 ltN d i j s).2.1 k (Sort.order2 ltN d i j s).2.2 (· < n) a1.2.1 hk
 have a3 := PLift.up (And.intro a1 a2)
 clear h a1 a2
 refine fn rfl ?_
 refine (order2_spec h'.down hd hi hj (by omega)).mono ?_
 rintro _ _ ⟨rfl, rfl⟩
 refine am ?_
 refine (order2_spec h'.down hd a3.down.1.2.1 hk (by have := a3.down.1.2.2; omega)).mono ?_
 rintro _ _ ⟨rfl, rfl⟩
 refine am ?_
 refine (order2_spec h'.down hd a3.down.1.1 a3.down.2.1 (by have := a3.down.1.2.2; have := a3.down.2.2.2; omega)).mono ?_
 rintro _ _ ⟨rfl, rfl⟩
 refine am ?_
 exact ⟨rfl, rfl⟩
theorem median_of {d : AN} {i j k s : Nat} {P : Nat → Prop} (h1 : P i) (h2 : P j) (h3 : P k) : P (Sort.median ltN d i j k s).1 ∧ (Sort.median ltN d i j k s).2 ≤ s + 3 := by
 have a1 := @order2_of d i j s P h1 h2
 have a2 := @order2_of d (Sort.order2 ltN d i j s).2.1 k (Sort.order2 ltN d i j s).2.2 P a1.2.1 h3
 have a3 := @order2_of d (Sort.order2 ltN d i j s).1 (Sort.order2 ltN d (Sort.order2 ltN d i j s).2.1 k (Sort.order2 ltN d i j s).2.2).1 (Sort.order2 ltN d (Sort.order2 ltN d i j s).2.1 k (Sort.order2 ltN d i j s).2.2).2.2 P a1.1 a2.1
 refine ⟨a3.2.1, ?_⟩
 have := a1.2.2; have := a2.2.2; have := a3.2.2
 unfold Sort.median
 dsimp only
 omega
theorem medianAdj_spec (h : Pq Nn b q (.cells true (rowA d r))) (hd : d.size = n) {i s : Nat} (h0 : 0 < i) (hi : i + 1 < n) (hs : s < 900) (hn : n < 100000000000000000) :
  C S n_slices_medianAdjacentOrdered_uint64 [sv b n cap ex, .int .i64 (i : Nat), .ptr q 0 0] (Nn (ctr s)) (fun v m' => v = .int .i64 ((Sort.medianAdjacent ltN d i s).1 : Nat) ∧ m' = Nn (ctr (Sort.medianAdjacent ltN d i s).2)) := by
 have h' := PLift.up h
 clear h
 have w1 : IntKind.i64.wrap ((i : Int) - 1) = ((i - 1 : Nat) : Int) := by rw [wrap_i64] <;> omega
 have w2 : IntKind.i64.wrap ((i : Int) + 1) = ((i + 1 : Nat) : Int) := by rw [wrap_i64] <;> omega
 refine fn rfl ?_
 refine (median_spec h'.down hd (by omega) (by omega) hi (by omega)).mono ?_
 rintro _ _ ⟨rfl, rfl⟩
 refine am ?_
 exact ⟨rfl, rfl⟩
theorem medianAdj_of {d : AN} {i s : Nat} : i - 1 ≤ (Sort.medianAdjacent ltN d i s).1 ∧ (Sort.medianAdjacent ltN d i s).1 ≤ i + 1 ∧ (Sort.medianAdjacent ltN d i s).2 ≤ s + 3 := by
 have := @median_of d (i - 1) i (i + 1) s (fun x => i - 1 ≤ x ∧ x ≤ i + 1) (by omega) (by omega) (by omega)
 exact ⟨this.1.1, this.1.2, this.2⟩
end
end Go.AM.G
set_option maxRecDepth 100000
namespace Go.AM.G
open Go Go.AM
def hcode (h : Sort.Hint) : Int :=
 match h with
 | .unknown => 0
 | .increasing => 1
 | .decreasing => 2
def hintOf (s : Nat) : Sort.Hint := if s = 0 then .increasing else if s = 12 then .decreasing else .unknown
theorem Pl.pq {Mm : Blk → Mem} {b : Nat} (h : Pl Mm b) (X : Blk) : Pq (fun Y => Mm X ++ [Y]) b (Mm X).length X := ⟨fun Y => h.get X [Y], fun Y => by simp, fun Y Z => by simp⟩
theorem choose_small {d : AN} {a c : Nat} (h : c - a < 8) : Sort.choosePivot ltN d a c = (a + (c - a) / 4 * 2, .increasing) := by
 unfold Sort.choosePivot
 dsimp only
 rw [if_neg (by omega)]
 rfl
theorem choose_mid {d : AN} {a c : Nat} (h : 8 ≤ c - a) (h2 : c - a < 50) : Sort.choosePivot ltN d a c = ((Sort.median ltN d (a + (c - a) / 4 * 1) (a + (c - a) / 4 * 2) (a + (c - a) / 4 * 3) 0).1, hintOf (Sort.median ltN d (a + (c - a) / 4 * 1) (a + (c - a) / 4 * 2) (a + (c - a) / 4 * 3) 0).2) := by
 unfold Sort.choosePivot
 dsimp only
 rw [if_pos h, if_neg (by omega)]
 rfl
abbrev ninth (d : AN) (i j k : Nat) : Nat × Nat :=
 Sort.median ltN d (Sort.medianAdjacent ltN d i 0).1 (Sort.medianAdjacent ltN d j (Sort.medianAdjacent ltN d i 0).2).1 (Sort.medianAdjacent ltN d k (Sort.medianAdjacent ltN d j (Sort.medianAdjacent ltN d i 0).2).2).1 (Sort.medianAdjacent ltN d k (Sort.medianAdjacent ltN d j (Sort.medianAdjacent ltN d i 0).2).2).2
theorem choose_big {d : AN} {a c : Nat} (h2 : 50 ≤ c - a) : Sort.choosePivot ltN d a c = ((ninth d (a + (c - a) / 4 * 1) (a + (c - a) / 4 * 2) (a + (c - a) / 4 * 3)).1, hintOf (ninth d (a + (c - a) / 4 * 1) (a + (c - a) / 4 * 2) (a + (c - a) / 4 * 3)).2) := by
 unfold Sort.choosePivot
 dsimp only
 rw [if_pos (by omega), if_pos h2]
 rfl
section
variable {Mm : Blk → Mem} {b n cap : Nat} {ex : Bool} {r : List (List V)}
theorem choose_tail {m : Mem} {s p : Nat} {x : Sort.Hint} (hx : hintOf s = x) {Q : V → Mem → Prop} (hQ : ∀ g, Q (.tup [.int .i64 (p : Nat), .int .i64 (hcode x)]) (m ++ g)) {fr : Frame} (F : Has fr [(9, .ptr m.length 0 0), (11, .int .i64 (p : Nat))]) :
  W S slices_choosePivotOrdered_uint64_j1 fr (m ++ [ctr s]) (bodyQ [.t 6, .t 7] Q) := by
 have hQ' := PLift.up hQ
 clear hQ
 by_cases h0 : s = 0
 ·subst h0
  have e : x = .increasing := by rw [← hx]; rfl
  subst e
  refine into ?_
  exact hQ'.down _
 have c1 : ((s : Int) = 0) = False := eq_false (by omega)
 by_cases h12 : s = 12
 ·subst h12
  have e : x = .decreasing := by rw [← hx]; rfl
  subst e
  refine into ?_
  exact hQ'.down _
 have c2 : ((s : Int) = 12) = False := eq_false (by omega)
 have e : x = .unknown := by rw [← hx, hintOf, if_neg h0, if_neg h12]
 subst e
 clear hx h0 h12
 refine into ?_
 exact hQ'.down _
theorem choose_spec (h : Pl Mm b) {d : AN} (hd : d.size = n) {a c : Nat} (hac : a < c) (hc : c ≤ n) (hn : n < 100000000000000000) :
  C S n_slices_choosePivotOrdered_uint64 [sv b n cap ex, .int .i64 (a : Nat), .int .i64 (c : Nat)] (at_ Mm r d) (fun v m' => v = .tup [.int .i64 ((Sort.choosePivot ltN d a c).1 : Nat), .int .i64 (hcode (Sort.choosePivot ltN d a c).2)] ∧ ∃ g, m' = at_ Mm r d ++ g) := by
 have h' := PLift.up h
 have hq := PLift.up (h.pq (.cells true (rowA d r)))
 clear h
 have hB : PLift (∀ p : Sort.Hint × Nat × Nat, True) := ⟨fun _ => trivial⟩
 obtain ⟨l, el⟩ : ∃ l, c - a = l := ⟨_, rfl⟩
 have w0 : IntKind.i64.wrap ((c : Int) - (a : Int)) = (l : Int) := by rw [wrap_i64] <;> omega
 have w1 : (l : Int).tdiv 4 = ((l / 4 : Nat) : Int) := tdivN (b := 4)
 have w1' : IntKind.i64.wrap ((l / 4 : Nat) : Int) = ((l / 4 : Nat) : Int) := by rw [wrap_i64] <;> omega
 have w2 : IntKind.i64.wrap (((l / 4 : Nat) : Int) * 1) = ((l / 4 * 1 : Nat) : Int) := by rw [wrap_i64] <;> omega
 have w3 : IntKind.i64.wrap (((l / 4 : Nat) : Int) * 2) = ((l / 4 * 2 : Nat) : Int) := by rw [wrap_i64] <;> omega
 have w4 : IntKind.i64.wrap (((l / 4 : Nat) : Int) * 3) = ((l / 4 * 3 : Nat) : Int) := by rw [wrap_i64] <;> omega
 have w5 : IntKind.i64.wrap ((a : Int) + ((l / 4 * 1 : Nat) : Int)) = ((a + l / 4 * 1 : Nat) : Int) := by rw [wrap_i64] <;> omega
 have w6 : IntKind.i64.wrap ((a : Int) + ((l / 4 * 2 : Nat) : Int)) = ((a + l / 4 * 2 : Nat) : Int) := by rw [wrap_i64] <;> omega
 have w7 : IntKind.i64.wrap ((a : Int) + ((l / 4 * 3 : Nat) : Int)) = ((a + l / 4 * 3 : Nat) : Int) := by rw [wrap_i64] <;> omega
 have c4 : ((4 : Int) = 0) = False := by decide
 by_cases h8 : 8 ≤ l
 case neg =>
  have c1 : ((8 : Int) ≤ (l : Int)) = False := eq_false (by omega)
  have eq := PLift.up (@choose_small d a c (by omega))
  refine fn rfl ?_
  refine choose_tail (s := 0) (p := a + l / 4 * 2) (x := .increasing) rfl (fun g => ⟨?_, g, rfl⟩) byam
  rw [eq.down, el]
 have c1 : ((8 : Int) ≤ (l : Int)) = True := eq_true (by omega)
 by_cases h50 : 50 ≤ l
 case neg =>
  have c2 : ((50 : Int) ≤ (l : Int)) = False := eq_false (by omega)
  have eq := PLift.up (@choose_mid d a c (by omega) (by omega))
  refine fn rfl ?_
  refine into ?_
  refine (median_spec (s := 0) hq.down hd (by omega) (by omega) (by omega) (by omega)).mono ?_
  rintro _ _ ⟨rfl, rfl⟩
  refine am ?_
  refine choose_tail (s := (Sort.median ltN d (a + l / 4 * 1) (a + l / 4 * 2) (a + l / 4 * 3) 0).2) (p := (Sort.median ltN d (a + l / 4 * 1) (a + l / 4 * 2) (a + l / 4 * 3) 0).1) rfl (fun g => ⟨?_, g, rfl⟩) byam
  rw [eq.down, el]
 have c2 : ((50 : Int) ≤ (l : Int)) = True := eq_true (by omega)
 have eq := PLift.up (@choose_big d a c (by omega))
 have b1 := PLift.up (@medianAdj_of d (a + l / 4 * 1) 0)
 have b2 := PLift.up (@medianAdj_of d (a + l / 4 * 2) (Sort.medianAdjacent ltN d (a + l / 4 * 1) 0).2)
 have b3 := PLift.up (@medianAdj_of d (a + l / 4 * 3) (Sort.medianAdjacent ltN d (a + l / 4 * 2) (Sort.medianAdjacent ltN d (a + l / 4 * 1) 0).2).2)
 refine fn rfl ?_
 refine (medianAdj_spec (s := 0) hq.down hd (by omega) (by omega) (by omega) hn).mono ?_
 rintro _ _ ⟨rfl, rfl⟩
 refine am ?_
 refine (medianAdj_spec hq.down hd (by omega) (by omega) (by have := b1.down; omega) hn).mono ?_
 rintro _ _ ⟨rfl, rfl⟩
 refine am ?_
 refine (medianAdj_spec hq.down hd (by omega) (by omega) (by have := b1.down; have := b2.down; omega) hn).mono ?_
 rintro _ _ ⟨rfl, rfl⟩
 refine am ?_
 refine into ?_
 refine (median_spec hq.down hd (by have := b1.down; omega) (by have := b2.down; omega) (by have := b3.down; omega) (by have := b1.down; have := b2.down; have := b3.down; omega)).mono ?_
 rintro _ _ ⟨rfl, rfl⟩
 refine am ?_
 refine choose_tail (s := (ninth d (a + l / 4 * 1) (a + l / 4 * 2) (a + l / 4 * 3)).2) (p := (ninth d (a + l / 4 * 1) (a + l / 4 * 2) (a + l / 4 * 3)).1) rfl (fun g => ⟨?_, g, rfl⟩) byam
 rw [eq.down, el]
theorem rev_size {i j : Nat} {d : AN} : (Sort.reverseLoop i j d).size = d.size := by
 fun_induction Sort.reverseLoop i j d <;> simp_all [Sort.swp]
theorem reverse_spec (h : Pl Mm b) {d : AN} (hd : d.size = n) {a c : Nat} (hac : a < c) (hc : c ≤ n) (hn : n < 100000000000000000) :
  C S n_slices_reverseRangeOrdered_uint64 [sv b n cap ex, .int .i64 (a : Nat), .int .i64 (c : Nat)] (at_ Mm r d) (fun v m' => v = .tup [] ∧ m' = at_ Mm r (Sort.reverseRange d a c)) := by
 have i1 := rowA_load
 have i2 := rowA_store
 have i3 := @ix_at b n cap ex
 have i4 := rowA_size
 have hg0 : ∀ X, (Mm X)[b]? = some X := fun X => by have := h.get X []; simpa using this
 have hs0 : ∀ X Y, (Mm X).set b Y = Mm Y := fun X Y => by have := h.set X Y []; simpa using this
 have h' := PLift.up h
 clear h
 have w0 : IntKind.i64.wrap ((c : Int) - 1) = ((c - 1 : Nat) : Int) := by rw [wrap_i64] <;> omega
 refine fn rfl ?_
 let I := fun (k : Nat) (fr : Frame) (M : Mem) => ∃ (i j : Nat) (d' : AN), k = n - i ∧ i ≤ n ∧ j < n ∧ d'.size = n ∧ Sort.reverseLoop i j d' = Sort.reverseRange d a c ∧ Has fr [(0, sv b n cap ex), (6, .int .i64 (i : Nat)), (7, .int .i64 (j : Nat))] ∧ M = at_ Mm r d'
 refine W_loop I ?_ (n - a) ⟨a, c - 1, d, rfl, by omega, by omega, hd, rfl, byam, rfl⟩
 rintro k fr _ ⟨i, j, d', rfl, hin, hjn, hd', hq, F, rfl⟩
 have hq' := PLift.up hq
 clear hq
 by_cases hij : i < j
 case neg =>
  have c1 : ((i : Int) < (j : Int)) = False := eq_false (by omega)
  refine into ?_
  rw [← hq'.down, Sort.reverseLoop, if_neg hij]
 have c1 : ((i : Int) < (j : Int)) = True := eq_true (by omega)
 have w1 : IntKind.i64.wrap ((i : Int) + 1) = ((i + 1 : Nat) : Int) := by rw [wrap_i64] <;> omega
 have w2 : IntKind.i64.wrap ((j : Int) - 1) = ((j - 1 : Nat) : Int) := by rw [wrap_i64] <;> omega
 have l1 : i < n := by omega
 have l1' : i < d'.size := by omega
 have l2' : j < d'.size := by omega
 refine into ?_
 refine ⟨n - (i + 1), by omega, i + 1, j - 1, Sort.swp d' i j, rfl, by omega, by omega, by rw [swp_size]; exact hd', ?_, byam, rfl⟩
 rw [← hq'.down]
 conv => rhs; rw [Sort.reverseLoop, if_pos hij]
end
end Go.AM.G
