/- Bits: is one set, are they right; of the program, and of the document. -/
import Derived.Test.YtkimcedmfnoeoaaGreatDoorHpA
set_option linter.unusedVariables false
set_option linter.unusedSimpArgs false
set_option maxRecDepth 100000
namespace Go.AM.G
open Go Go.AM
def okE (P : Prop) (r : V) : Prop := (P ∧ r = .int .i64 0) ∨ (¬ P ∧ r = .int .i64 2)
def bit (w : Nat → Nat) (i : Nat) : Bool := (w (i / 64)).testBit (i % 64)
def bitsOk (N : Int) (n : Nat) (w : Nat → Nat) : Prop := 0 ≤ N ∧ N ≤ 4096 ∧ (n : Int) = (N + 63) / 64 ∧ ∀ i : Nat, N ≤ i → i < 64 * n → bit w i = false
def w64 (n : Nat) (w : Nat → Nat) : Prop := ∀ i, i < n → w i < 18446744073709551616
theorem bits_Is_spec {m : Mem} {v : V} {n i : Nat} {w : Nat → Nat} {N : Int} (hv : Rd m v 1 n (u64s w)) (hw : w64 n w) (hi : i < 64 * n) (hn : n < 1000000) : C S n_bits_Is [.agg [.int .i64 N, v], .int .i64 (i : Nat)] m (fun r m' => r = .bool (bit w i) ∧ Grow m m') := by
 have A := hv.ar
 have i1 : i / 64 < n := by omega
 have q := @q64 i
 have r := @r64 i
 have w1 := wn (a := i / 64) (by omega)
 have s1 := shrN (hw _ i1) (show i % 64 < 64 by omega)
 have s2 := and1 (a := w (i / 64) >>> (i % 64)) (by have := hw _ i1; have := Nat.shiftRight_le (w (i / 64)) (i % 64); omega)
 have c := c64
 have b := @bit_at (w (i / 64)) (i % 64)
 refine fn rfl ?_
 exact ⟨rfl, (Grow.refl _).app⟩
theorem ref01_Is_spec {m : Mem} {v : V} {n i : Nat} {w : Nat → Nat} {N : Int} (hv : Rd m v 1 n (u64s w)) (hw : w64 n w) (hi : i < 64 * n) (hn : n < 1000000) : C S n_ref01_Is [.agg [.int .i64 N, v], .int .i64 (i : Nat)] m (fun r m' => r = .bool (bit w i) ∧ Grow m m') := by
 have A := hv.ar
 have i1 : i / 64 < n := by omega
 have q := @q64 i
 have r := @r64 i
 have w1 := wn (a := i / 64) (by omega)
 have w2 := un' (a := i % 64) (by omega)
 have s1 := shrN (hw _ i1) (show i % 64 < 64 by omega)
 have s2 : ((w (i / 64) >>> (i % 64) : Nat) : Int).tmod 2 = ((w (i / 64) >>> (i % 64) % 2 : Nat) : Int) := tmodN (b := 2)
 have c := c64
 have c2 : ((2 : Int) = 0) = False := by decide
 have b := @bit_at (w (i / 64)) (i % 64)
 refine fn rfl ?_
 exact ⟨rfl, (Grow.refl _).app⟩
theorem bits_last {a n : Nat} {w : Nat → Nat} (hn : n = (a + 63) / 64) (hk : 0 < a % 64) (hw : w64 n w) : w (n - 1) >>> (a % 64) = 0 ↔ ∀ i, a ≤ i → i < 64 * n → bit w i = false := by
 constructor
 ·intro h i h1 h2
  have e : i / 64 = n - 1 := by omega
  unfold bit
  rw [e]
  have h3 : (w (n - 1) >>> (a % 64)).testBit (i % 64 - a % 64) = false := by rw [h]; simp
  rw [Nat.testBit_shiftRight] at h3
  have e2 : a % 64 + (i % 64 - a % 64) = i % 64 := by omega
  rwa [e2] at h3
 ·intro h
  apply Nat.eq_of_testBit_eq
  intro j
  rw [Nat.testBit_shiftRight, Nat.zero_testBit]
  by_cases hj : a % 64 + j < 64
  ·have := h (64 * (n - 1) + (a % 64 + j)) (by omega) (by omega)
   unfold bit at this
   have e1 : (64 * (n - 1) + (a % 64 + j)) / 64 = n - 1 := by omega
   have e2 : (64 * (n - 1) + (a % 64 + j)) % 64 = a % 64 + j := by omega
   rwa [e1, e2] at this
  ·exact Nat.testBit_lt_two_pow (Nat.lt_of_lt_of_le (hw (n - 1) (by omega)) (by exact Nat.pow_le_pow_right (n := 2) (by omega) (show 64 ≤ a % 64 + j by omega)))
theorem bits_Check_spec {m : Mem} {v : V} {n : Nat} {w : Nat → Nat} {N : Int} (hv : Rd m v 1 n (u64s w)) (hw : w64 n w) (hn : n < 17592186044417) : C S n_bits_Check [.agg [.int .i64 N, v]] m (fun r m' => okE (bitsOk N n w) r ∧ Grow m m') := by
 have A := hv.ar
 have G : Grow m (m ++ [Blk.cells true [[V.int .i64 N, v]]]) := (Grow.refl _).app
 by_cases h0 : N < 0
 ·refine fn rfl ?_
  exact .inr ⟨fun h => by have := h.1; omega, rfl⟩
 by_cases h1 : 4096 < N
 ·refine fn rfl ?_
  exact .inr ⟨fun h => by have := h.2.1; omega, rfl⟩
 obtain ⟨a, rfl⟩ : ∃ a : Nat, N = a := ⟨N.toNat, by omega⟩
 have w1 : IntKind.i64.wrap ((a : Int) + 64) = ((a + 64 : Nat) : Int) := by rw [wrap_i64] <;> omega
 have w2 : IntKind.i64.wrap (((a + 64 : Nat) : Int) - 1) = ((a + 63 : Nat) : Int) := by rw [wrap_i64] <;> omega
 have w3 := wn (a := (a + 63) / 64) (by omega)
 have q := @q64 (a + 63)
 have c := c64
 by_cases h2 : n = (a + 63) / 64
 case neg =>
  have h2' : ((n : Int) = (((a + 63) / 64 : Nat) : Int)) = False := eq_false (by omega)
  refine fn rfl ?_
  exact .inr ⟨fun h => h2 (by have := h.2.2.1; omega), rfl⟩
 have h2' : ((n : Int) = (((a + 63) / 64 : Nat) : Int)) = True := eq_true (by omega)
 have r := @r64 a
 by_cases h3 : 0 < a % 64
 case neg =>
  have h3' : ((0 : Int) < ((a % 64 : Nat) : Int)) = False := eq_false (by omega)
  refine fn rfl ?_
  exact .inl ⟨⟨by omega, by omega, by omega, fun i h4 h5 => by omega⟩, rfl⟩
 have h3' : ((0 : Int) < ((a % 64 : Nat) : Int)) = True := eq_true (by omega)
 have n1 : n - 1 < n := by omega
 have w4 : IntKind.i64.wrap ((n : Int) - 1) = ((n - 1 : Nat) : Int) := by rw [wrap_i64] <;> omega
 have s1 := shrN (hw _ n1) (show a % 64 < 64 by omega)
 have hl := bits_last h2 h3 hw
 clear h2
 by_cases h4 : w (n - 1) >>> (a % 64) = 0
 ·have h4' : (((w (n - 1) >>> (a % 64) : Nat) : Int) = 0) = True := eq_true (by omega)
  have h5 := hl.1 h4
  clear h4 hl
  refine fn rfl ?_
  exact .inl ⟨⟨by omega, by omega, by rw [h2'.mpr trivial]; omega, fun i h6 h7 => h5 i (by omega) h7⟩, rfl⟩
 ·have h4' : (((w (n - 1) >>> (a % 64) : Nat) : Int) = 0) = False := eq_false (by omega)
  have h5 : ¬ bitsOk a n w := fun h => h4 (hl.2 fun i h6 h7 => h.2.2.2 i (by omega) h7)
  clear h4 hl
  refine fn rfl ?_
  exact .inr ⟨id, rfl⟩
end Go.AM.G
set_option maxRecDepth 100000
namespace Go.AM.G
open Go Go.AM
abbrev Iu (len : Nat) (g : Mem) (v : V) (n : Nat) (w : Nat → Nat) : Prop := In len g v 1 ((List.range n).map (u64s w))
theorem Clone_spec {m : Mem} {v : V} {n : Nat} {w : Nat → Nat} (hv : Rd m v 1 n (u64s w)) (hn : n < 17592186044417) : C S n_slices_Clone_uint64 [v] m (fun r m' => ∃ g, m' = m ++ g ∧ Iu m.length g r n w) := by
 rcases hv with hv | ⟨rfl, rfl⟩
 ·rcases hv.cases with ⟨rfl, he⟩ | ⟨b, i, len, cap, ex, rfl⟩
  ·refine fn rfl ?_
   exact ⟨[], by simp, .mk ⟨by rw [List.append_nil]; exact hv, .inl rfl⟩⟩
  ·obtain ⟨v', m', a1, ⟨g, rfl⟩, a3⟩ := append_new (zero := [V.int .u64 0]) (bytes := 8) hv rfl (by decide) (by simp; omega)
   refine fn rfl ?_
   exact ⟨g, rfl, .mk a3⟩
 ·refine fn rfl ?_
  exact ⟨.slice m.length 0 0 0 true 1, m ++ [.cells true []], by simp [appendV, elemsY, zOk], [.cells true []], rfl, .mk ⟨Sl.mk (els := []) (own := true) (by simp), .inr ⟨_, _, _, Nat.le_refl _, rfl, by simp⟩⟩⟩
theorem Own_spec {m : Mem} {v : V} {n : Nat} {w : Nat → Nat} {N : Int} (hv : Rd m v 1 n (u64s w)) (hn : n < 17592186044417) : C S n_bits_Own [.agg [.int .i64 N, v]] m (fun r m' => ∃ g v', m' = m ++ g ∧ r = .agg [.int .i64 N, v'] ∧ Iu m.length g v' n w) := by
 have A := hv.ar
 refine fn rfl ?_
 refine (Clone_spec hv.app hn).mono ?_
 rintro v' _ ⟨g, rfl, h⟩
 have c := h.cell
 have c' := cells_cell c
 rw [aft_mk]
 refine am ?_
 exact ⟨_, v', rfl, rfl, .pre [_, _] (by simpa using h)⟩
def setb (w : Nat → Nat) (i : Nat) (b : Bool) : Nat → Nat := up w (i / 64) (if b = true then w (i / 64) ||| 2 ^ (i % 64) else andNot (w (i / 64)) (2 ^ (i % 64)))
theorem andNot_bit {a k j : Nat} (ha : a < 18446744073709551616) (hj : j < 64) : (andNot a (2 ^ k)).testBit j = (a.testBit j && !decide (k = j)) := by
 unfold andNot
 rw [BitVec.testBit_toNat]
 rw [BitVec.getLsbD_and, BitVec.getLsbD_not, BitVec.getLsbD_ofNat, BitVec.getLsbD_ofNat]
 simp [hj, Nat.testBit_two_pow]
theorem bit_setb {n i k : Nat} {w : Nat → Nat} {b : Bool} (hw : w64 n w) (hi : i < 64 * n) : bit (setb w i b) k = if k = i then b else bit w k := by
 unfold bit setb
 by_cases h : k / 64 = i / 64
 ·rw [h, up_self]
  have hk := hw (i / 64) (by omega)
  cases b with
  | true =>
   rw [if_pos rfl, Nat.testBit_or, Nat.testBit_two_pow]
   by_cases e : k = i
   ·subst e; simp
   ·rw [if_neg e, decide_eq_false (show ¬ i % 64 = k % 64 by omega), Bool.or_false]
  | false =>
   rw [if_neg (by decide), andNot_bit hk (by omega)]
   by_cases e : k = i
   ·subst e; simp
   ·rw [if_neg e, decide_eq_false (show ¬ i % 64 = k % 64 by omega)]; simp
 ·rw [up_ne h, if_neg (fun e => h (by rw [e]))]
theorem w64_setb {n i : Nat} {w : Nat → Nat} {b : Bool} (hw : w64 n w) : w64 n (setb w i b) := by
 intro j hj
 unfold setb
 by_cases h : j = i / 64
 ·subst h
  rw [up_self]
  have hk := hw _ hj
  split
  ·exact Nat.or_lt_two_pow (n := 64) hk (Nat.pow_lt_pow_right (by decide) (by omega))
  ·exact BitVec.isLt _
 ·rw [up_ne h]; exact hw j hj
theorem Iu.put {A g G : Mem} {v : V} {n p : Nat} {w : Nat → Nat} (h : Iu A.length g v n w) (hp : p < n) (x : Nat) : ∃ g', g.length = g'.length ∧ storeV (A ++ (g ++ G)) 1 (atp v p 0) (.int .u64 (x : Int)) = some (A ++ (g' ++ G)) ∧ Iu A.length g' v n (up w p x) := by
 rcases (h A rfl).cases with ⟨_, h2⟩ | ⟨b, cap, ex, h1, rfl, h3⟩
 ·have := congrArg List.length h2; simp at this; omega
 have hbl := (List.getElem?_eq_some_iff.1 h3).1
 have hg : g[b - A.length]? = some (.cells true ((List.range n).map (u64s w))) := by
  rw [List.getElem?_append_right h1] at h3; exact h3
 have hset : ∀ (B : Mem) y, B.length = A.length → (B ++ g).set b y = B ++ g.set (b - A.length) y := fun B y hB => by rw [List.set_append_right _ _ (by omega), hB]
 refine ⟨g.set (b - A.length) (.cells true ((List.range n).map (u64s (up w p x)))), by simp, ?_, ?_⟩
 ·have h4 : (A ++ (g ++ G))[b]? = some (.cells true ((List.range n).map (u64s w))) := by rw [← List.append_assoc]; exact getElem?_grow h3
  have st := store_own (n := 1) (len := n) (cap := cap) (z := 1) (ex := ex) (x := V.int .u64 (x : Int)) (i := p) (el := u64s w p) h4 (by simp [hp]) rfl rfl rfl
  have e : ((List.range n).map (u64s w)).length = n := by simp
  rw [e, st, V.cells, map_set, u64s_up]
  ·rw [← List.append_assoc, List.set_append_left _ _ hbl, hset A _ rfl, List.append_assoc]
  ·intro _ h; cases h
 ·intro B hB
  rw [← hset B _ hB]
  have h5 : ((B ++ g).set b (.cells true ((List.range n).map (u64s (up w p x)))))[b]? = some (.cells true ((List.range n).map (u64s (up w p x)))) := List.getElem?_set_self (by simp at hbl ⊢; omega)
  refine .mk (.inr ⟨b, cap, ex, h1, by simp, h5⟩)
theorem Iu.rd {A g G : Mem} {v : V} {n : Nat} {w : Nat → Nat} (h : Iu A.length g v n w) : Rd (A ++ (g ++ G)) v 1 n (u64s w) := by
 rw [← List.append_assoc]; exact Rd.app (.inl (h A rfl).1)
theorem list_put_spec {M A g G : Mem} {P n i : Nat} {own : Bool} {v : V} {w : Nat → Nat} {N : Int} {b : Bool} (h : Iu A.length g v n w) (hM : M = A ++ (g ++ G)) (hP : M[P]? = some (.cells own [[.int .i64 N, v]])) (hw : w64 n w) (hi : i < 64 * n) (hn : n < 1000000) :
  C S n_bits_list_put [.ptr P 0 0, .int .i64 (i : Nat), .bool b] M (fun _ m' => ∃ g', m' = A ++ (g' ++ G) ∧ g.length = g'.length ∧ Iu A.length g' v n (setb w i b)) := by
 subst hM
 have R := (h.rd (G := G)).ar
 have i1 : i / 64 < n := by omega
 have q := @q64 i
 have r := @r64 i
 have w1 := wn (a := i / 64) (by omega)
 have c := c64
 have hk := hw _ i1
 have s := shl1 (k := i % 64) (by omega)
 have h2 : (2 ^ (i % 64) : Nat) < 18446744073709551616 := Nat.lt_of_lt_of_le (Nat.pow_lt_pow_right (by decide) (show i % 64 < 64 by omega)) (by decide)
 cases b with
 | true =>
  have o := orN hk h2
  obtain ⟨g', l, st, h'⟩ := h.put (G := G) i1 (w (i / 64) ||| 2 ^ (i % 64))
  refine fn rfl ?_
  exact ⟨g', rfl, rfl, h'⟩
 | false =>
  have o := @andNotN (w (i / 64)) (2 ^ (i % 64))
  obtain ⟨g', l, st, h'⟩ := h.put (G := G) i1 (andNot (w (i / 64)) (2 ^ (i % 64)))
  refine fn rfl ?_
  exact ⟨g', rfl, rfl, h'⟩
end Go.AM.G
set_option maxRecDepth 100000
namespace Go.AM.G
open Go Go.AM
theorem Make_spec {m : Mem} {n : Nat} (hn : n ≤ 4096) : C S n_bits_Make [.int .i64 (n : Nat)] m (fun r m' => ∃ g v, m' = m ++ g ∧ r = .tup [.agg [.int .i64 (n : Nat), v], .int .i64 0] ∧ Iu m.length g v ((n + 63) / 64) (fun _ => 0)) := by
 have c1 : ((n : Int) < 0) = False := eq_false (by omega)
 have c2 : ((4096 : Int) < (n : Int)) = False := eq_false (by omega)
 have w1 : IntKind.i64.wrap ((n : Int) + 64) = ((n + 64 : Nat) : Int) := by rw [wrap_i64] <;> omega
 have w2 : IntKind.i64.wrap (((n + 64 : Nat) : Int) - 1) = ((n + 63 : Nat) : Int) := by rw [wrap_i64] <;> omega
 have w3 := wn (a := (n + 63) / 64) (by omega)
 have q := @q64 (n + 63)
 have c := c64
 have hz : ((0 : Int) ≤ (((n + 63) / 64 : Nat) : Int)) = True := eq_true (by omega)
 have hr : ((((n + 63) / 64 : Nat) : Int) ≤ (((n + 63) / 64 : Nat) : Int)) = True := eq_true (by omega)
 have rm : roomy ((n + 63) / 64) 8 = true := by simp [roomy]; omega
 have e : List.replicate ((n + 63) / 64) [V.int .u64 0] = (List.range ((n + 63) / 64)).map (u64s fun _ => 0) := by simp [List.map_const']
 refine fn rfl ?_
 refine ⟨_, _, rfl, rfl, .pre [_] ?_⟩
 have := In.one (els := (List.range ((n + 63) / 64)).map (u64s fun _ => 0)) (len := m.length + 1) (cap := (n + 63) / 64) (ex := true) (z := 1)
 simpa using this
theorem Put_spec {m : Mem} {v : V} {n i : Nat} {w : Nat → Nat} {N : Int} {b : Bool} (hv : Rd m v 1 n (u64s w)) (hw : w64 n w) (hok : bitsOk N n w) (hi : (i : Int) < N) :
  C S n_bits_Put [.agg [.int .i64 N, v], .int .i64 (i : Nat), .bool b] m (fun r m' => ∃ g v', m' = m ++ g ∧ r = .tup [.agg [.int .i64 N, v'], .int .i64 0] ∧ Iu m.length g v' n (setb w i b)) := by
 have A := hv.ar
 obtain ⟨k1, k2, k3, _⟩ := id hok
 have c1 : ((i : Int) < 0) = False := eq_false (by omega)
 have c2 : (N ≤ (i : Int)) = False := eq_false (by omega)
 have c3 : ((0 : Int) = 0) = True := eq_true rfl
 refine fn rfl ?_
 refine (bits_Check_spec hv.app hw (by omega)).mono ?_
 rintro r _ ⟨h, ⟨g1, rfl⟩⟩
 rcases h with ⟨_, rfl⟩ | ⟨h, _⟩
 case inr => exact absurd hok h
 rw [aft_mk]
 refine am ?_
 refine (Own_spec hv.app (by omega)).mono ?_
 rintro _ _ ⟨g2, v', rfl, rfl, h⟩
 have c' := h.cell
 rw [aft_mk]
 refine am ?_
 refine (list_put_spec (A := m ++ (_ :: _ :: g1)) (g := g2) (G := [_]) (own := true) (N := N) h (by simp only [List.append_assoc, List.cons_append]; rfl) (by simp) hw (by omega) (by omega)).mono ?_
 rintro _ _ ⟨g3, rfl, hl, h'⟩
 rw [aft_mk]
 refine am ?_
 exact ⟨_, v', rfl, rfl, .pre [_, _] (.pre g1 (.app h'.cast))⟩
def fillb (w : Nat → Nat) (i : Nat) : Nat → Nat → Nat
 | 0 => w
 | k + 1 => setb (fillb w i k) (i + k) true
theorem w64_fillb {n i : Nat} {w : Nat → Nat} (hw : w64 n w) : ∀ k, w64 n (fillb w i k)
 | 0 => hw
 | k + 1 => w64_setb (w64_fillb hw k)
theorem bit_fillb {n i k : Nat} {w : Nat → Nat} (hw : w64 n w) : ∀ c, i + c ≤ 64 * n → bit (fillb w i c) k = (decide (i ≤ k ∧ k < i + c) || bit w k)
 | 0, _ => by
  have : ¬ (i ≤ k ∧ k < i + 0) := by omega
  simp only [fillb, decide_eq_false this, Bool.false_or]
 | c + 1, h => by
  rw [fillb, bit_setb (w64_fillb hw c) (by omega), bit_fillb hw c (by omega)]
  by_cases e : k = i + c
  ·have : i ≤ k ∧ k < i + (c + 1) := by omega
   rw [if_pos e, decide_eq_true this, Bool.true_or]
  ·rw [if_neg e]
   congr 1
   exact decide_eq_decide.2 (by omega)
theorem Fill_spec {m : Mem} {v : V} {n i k : Nat} {w : Nat → Nat} {N : Int} (hv : Rd m v 1 n (u64s w)) (hw : w64 n w) (hok : bitsOk N n w) (hi : i < 100000) (hk : k < 100000) :
  C S n_bits_Fill [.agg [.int .i64 N, v], .int .i64 (i : Nat), .int .i64 (k : Nat), .bool true] m (fun r m' => ∃ g v', m' = m ++ g ∧ v'.isCell = true ∧ (((i + k : Nat) : Int) ≤ N ∧ r = .tup [.agg [.int .i64 N, v'], .int .i64 0] ∧ Iu m.length g v' n (fillb w i k) ∨ N < ((i + k : Nat) : Int) ∧ r = .tup [.agg [.int .i64 N, v'], .int .i64 1])) := by
 have A := hv.ar
 obtain ⟨k1, k2, k3, _⟩ := id hok
 have c1 : ((i : Int) < 0) = False := eq_false (by omega)
 have c1' : ((k : Int) < 0) = False := eq_false (by omega)
 have c3 : ((0 : Int) = 0) = True := eq_true rfl
 refine fn rfl ?_
 refine (bits_Check_spec hv.app hw (by omega)).mono ?_
 rintro r _ ⟨h, ⟨g1, rfl⟩⟩
 rcases h with ⟨_, rfl⟩ | ⟨h, _⟩
 case inr => exact absurd hok h
 rw [aft_mk]
 refine am ?_
 refine (Own_spec hv.app (by omega)).mono ?_
 rintro _ _ ⟨g2, v', rfl, rfl, h⟩
 have c' := h.cell
 have w1 : IntKind.i64.wrap (N - (k : Int)) = N - (k : Int) := by rw [wrap_i64] <;> omega
 rw [aft_mk]
 by_cases c4 : N < (k : Int)
 ·refine am ?_
  exact ⟨_, _, rfl, c', .inr ⟨by omega, rfl⟩⟩
 by_cases c5 : N - (k : Int) < (i : Int)
 ·refine am ?_
  exact ⟨_, _, rfl, c', .inr ⟨by omega, rfl⟩⟩
 refine am ?_
 refine range (α := Unit) k (fun _ => [(1, .int .i64 (i : Nat)), (3, .bool true), (8, .ptr (m.length + 1) 0 0), (11, .ptr (m.length + (g1.length + (g2.length) + 1 + 1)) 0 0)])
  (fun j _ M => ∃ g3, M = (m ++ (.cells true [[.int .i64 N, v]] :: .cells true [[.int .i64 0, .nils]] :: g1)) ++ (g3 ++ [.cells true [[.int .i64 N, v']]]) ∧ g2.length = g3.length ∧ Iu (m.length + (g1.length + 1 + 1)) g3 v' n (fillb w i j)) () ⟨g2, by simp, rfl, h.cast⟩ ?_ ?_
 ·rintro j ⟨⟩ fr _ hj F ⟨g3, rfl, hl, h'⟩
  have w2 : IntKind.i64.wrap ((i : Int) + (j : Int)) = ((i + j : Nat) : Int) := by rw [wrap_i64] <;> omega
  refine am ?_
  refine (list_put_spec (i := i + j) (A := m ++ (_ :: _ :: g1)) (g := g3) (G := [_]) (own := true) (N := N) h'.cast (by simp only [List.append_assoc, List.cons_append]; rfl) (by simp) (w64_fillb hw j) (by omega) (by omega)).mono ?_
  rintro _ _ ⟨g4, rfl, hl4, h4⟩
  rw [aft_mk]
  refine am ?_
  exact ⟨(), byam, g4, by simp, by omega, h4.cast⟩
 ·rintro ⟨⟩ fr _ F ⟨g3, rfl, hl, h'⟩
  refine am ?_
  exact ⟨_, v', rfl, c', .inl ⟨by omega, rfl, .pre [_, _] (.pre g1 (.app h'.cast))⟩⟩
theorem Equal_spec {m : Mem} {v u : V} {n k : Nat} {w x : Nat → Nat} (hv : Rd m v 1 n (u64s w)) (hu : Rd m u 1 k (u64s x)) (hn : n < 17592186044417) : C S n_slices_Equal_uint64 [v, u] m (fun r m' => r = .bool (decide (n = k ∧ ∀ i, i < n → w i = x i)) ∧ m' = m) := by
 have A := hv.ar
 have B := hu.ar
 by_cases h : n = k
 case neg =>
  have h1 : ((n : Int) = (k : Int)) = False := eq_false (by omega)
  have h2 : (n = k ∧ ∀ i, i < n → w i = x i) = False := eq_false fun e => h e.1
  refine fn rfl ?_
  simp
 subst h
 have h1 : ((n : Int) = (n : Int)) = True := eq_true rfl
 refine fn rfl ?_
 refine range (α := Unit) n (fun _ => [(0, v), (1, u)]) (fun j _ M => M = m ∧ ∀ i, i < j → w i = x i) () ⟨rfl, fun i hi => absurd hi (Nat.not_lt_zero _)⟩ ?_ ?_
 ·rintro j ⟨⟩ fr _ hj F ⟨rfl, hj2⟩
  by_cases e : w j = x j
  ·have e' : ((w j : Int) = (x j : Int)) = True := eq_true (by omega)
   refine am ?_
   exact ⟨(), byam, rfl, fun i hi => by by_cases h : i = j; exact h ▸ e; exact hj2 i (by omega)⟩
  ·have e' : ((w j : Int) = (x j : Int)) = False := eq_false (by omega)
   refine am ?_
   exact (decide_eq_false fun h => e (h j hj)).symm
 ·rintro ⟨⟩ fr _ F ⟨rfl, hj2⟩
  have e2 : id (∀ i, i < n → w i = x i) := hj2
  clear hj2
  refine am ?_
  exact (decide_eq_true (show ∀ i, i < n → w i = x i from e2)).symm
end Go.AM.G
