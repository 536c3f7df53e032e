/- Patterns of words broken up. -/
import Derived.Test.YtkimcedmfnoeoaaGreatDoorHsA
import Derived.Sort.LotD5
set_option linter.unusedVariables false
set_option linter.unusedSimpArgs false
set_option maxRecDepth 100000
namespace Go.AM.G
open Go Go.AM
theorem shlC {w k p : Nat} (hk : k < 64) (hp : 2 ^ k = p) : shI .shl .u64 (w : Int) (k : Int) = some (.int .u64 ((w * p % 18446744073709551616 : Nat) : Int)) := by
 unfold shI
 rw [if_neg (by omega)]
 have e : Nat.min (k : Int).toNat IntKind.u64.bits = k := by
  show Nat.min (k : Int).toNat 64 = k
  rw [Int.toNat_natCast]; exact Nat.min_eq_left (by omega)
 simp only [e, Option.some.injEq, V.int.injEq, true_and]
 have h2 : (w : Int) * 2 ^ k = ((w * p : Nat) : Int) := by rw [← hp]; simp
 rw [h2]
 show (((w * p : Nat) : Int)) % 18446744073709551616 = _
 omega
theorem shrC {w k p : Nat} (hw : w < 18446744073709551616) (hk : k < 64) (hp : 2 ^ k = p) : shI .shr .u64 (w : Int) (k : Int) = some (.int .u64 ((w / p : Nat) : Int)) := by
 rw [shrN hw hk, Nat.shiftRight_eq_div_pow, hp]
theorem xorN {a b : Nat} (ha : a < 18446744073709551616) (hb : b < 18446744073709551616) : IntKind.u64.wrap ↑(BitVec.ofInt IntKind.u64.bits (a : Int) ^^^ BitVec.ofInt IntKind.u64.bits (b : Int)).toNat = ((a ^^^ b : Nat) : Int) := by
 have h : (BitVec.ofInt IntKind.u64.bits (a : Int) ^^^ BitVec.ofInt IntKind.u64.bits (b : Int)).toNat = a ^^^ b := by
  show (BitVec.ofNat 64 a ^^^ BitVec.ofNat 64 b).toNat = _
  rw [BitVec.toNat_xor, BitVec.toNat_ofNat, BitVec.toNat_ofNat, Nat.mod_eq_of_lt ha, Nat.mod_eq_of_lt hb]
 rw [h, un' (Nat.xor_lt_two_pow (n := 64) ha hb)]
theorem bitLen_eq (x : Nat) (h : x < 18446744073709551616) : Lib.bitLen x = Sort.bitsLen x := by
 unfold Sort.bitsLen
 induction x using Nat.strongRecOn with
 | _ x ih =>
  by_cases h0 : x = 0
  ·subst h0; rfl
  ·rw [Lib.bitLen_half x h0 h, ih (x / 2) (by omega) (by omega), if_neg h0]
   by_cases h1 : x / 2 = 0
   ·rw [if_pos h1]
    have : x = 1 := by omega
    subst this
    rfl
   ·rw [if_neg h1]
    conv => rhs; rw [Nat.log2_def]
    rw [if_pos (by omega)]
    omega
theorem bitsLen_lt {x k : Nat} (h : x < 2 ^ k) : Sort.bitsLen x ≤ k := by
 unfold Sort.bitsLen
 split
 ·omega
 ·rename_i h0
  have := (Nat.log2_lt h0).2 h
  omega
abbrev wrd (x : Nat) : Blk := .cells true [[.int .u64 (x : Nat)]]
theorem wrd_load (s : Nat) : loadB (some (wrd s)) none 0 0 = some (.int .u64 (s : Nat)) := rfl
theorem wrd_store (s t : Nat) : storeB (some (wrd s)) 1 0 0 (.int .u64 (t : Nat)) = some (wrd t) := rfl
theorem next_spec {Nn : Blk → Mem} {q x : Nat} (hget : ∀ Y, (Nn Y)[q]? = some Y) (hset : ∀ Y Z, (Nn Y).set q Z = Nn Z) (hx : x < 18446744073709551616) :
  C S n_slices_xorshift_Next [.ptr q 0 0] (Nn (wrd x)) (fun v m' => v = .int .u64 (Sort.xorNextN x : Nat) ∧ m' = Nn (wrd (Sort.xorNextN x))) := by
 have k1 := wrd_load
 have k2 := wrd_store
 have p : (18446744073709551616 : Nat) = 2 ^ 64 := by decide
 obtain ⟨a0, ea0⟩ : ∃ a0, x * 8192 % 18446744073709551616 = a0 := ⟨_, rfl⟩
 have ha0 : a0 < 18446744073709551616 := by omega
 obtain ⟨a, ea⟩ : ∃ a, x ^^^ a0 = a := ⟨_, rfl⟩
 have ha : a < 18446744073709551616 := by rw [← ea, p]; exact Nat.xor_lt_two_pow (by omega) (by omega)
 have hb0 : a / 128 < 18446744073709551616 := by omega
 obtain ⟨b, eb⟩ : ∃ b, a ^^^ (a / 128) = b := ⟨_, rfl⟩
 have hb : b < 18446744073709551616 := by rw [← eb, p]; exact Nat.xor_lt_two_pow (by omega) (by omega)
 obtain ⟨c0, ec0⟩ : ∃ c0, b * 131072 % 18446744073709551616 = c0 := ⟨_, rfl⟩
 have hc0 : c0 < 18446744073709551616 := by omega
 have s1 : shI .shl .u64 (x : Int) 13 = some (.int .u64 (a0 : Nat)) := by rw [← ea0]; exact shlC (k := 13) (by decide) (by decide)
 have s2 : shI .shr .u64 (a : Int) 7 = some (.int .u64 ((a / 128 : Nat) : Nat)) := shrC (k := 7) ha (by decide) (by decide)
 have s3 : shI .shl .u64 (b : Int) 17 = some (.int .u64 (c0 : Nat)) := by rw [← ec0]; exact shlC (k := 17) (by decide) (by decide)
 have x1 : IntKind.u64.wrap ↑(BitVec.ofInt IntKind.u64.bits (x : Int) ^^^ BitVec.ofInt IntKind.u64.bits (a0 : Int)).toNat = ((a : Nat) : Int) := by rw [xorN hx ha0, ea]
 have x2 : IntKind.u64.wrap ↑(BitVec.ofInt IntKind.u64.bits (a : Int) ^^^ BitVec.ofInt IntKind.u64.bits ((a / 128 : Nat) : Int)).toNat = ((b : Nat) : Int) := by rw [xorN ha hb0, eb]
 have x3 : IntKind.u64.wrap ↑(BitVec.ofInt IntKind.u64.bits (b : Int) ^^^ BitVec.ofInt IntKind.u64.bits (c0 : Int)).toNat = ((b ^^^ c0 : Nat) : Int) := xorN hb hc0
 have hfin : PLift (Sort.xorNextN x = b ^^^ c0) := ⟨by
  unfold Sort.xorNextN
  dsimp only
  rw [ea0, ea, eb, ec0]⟩
 clear ea0 ea eb ec0 p
 refine fn rfl ?_
 rw [hfin.down]
 exact ⟨rfl, rfl⟩
theorem pow2_spec {m : Mem} {l : Nat} (hl : l < 100000000000000000) : C S n_slices_nextPowerOfTwo [.int .i64 (l : Nat)] m (fun v m' => v = .int .u64 ((1 <<< Sort.bitsLen l : Nat) : Nat) ∧ m' = m) := by
 have w1 : IntKind.u64.wrap (l : Int) = (l : Int) := un' (by omega)
 have hb : Sort.bitsLen l < 64 := Nat.lt_of_le_of_lt (bitsLen_lt (k := 57) (by omega)) (by decide)
 have s1 : shI .shl .u64 1 ((Sort.bitsLen l : Nat) : Int) = some (.int .u64 ((2 ^ Sort.bitsLen l : Nat) : Nat)) := shl1 hb
 have e : PLift ((1 <<< Sort.bitsLen l : Nat) = 2 ^ Sort.bitsLen l) := ⟨by rw [Nat.shiftLeft_eq, Nat.one_mul]⟩
 refine fn rfl ?_
 refine (Len_spec (n := l) (by omega)).mono ?_
 rintro _ _ ⟨rfl, rfl⟩
 rw [bitLen_eq l (by omega)]
 refine am ?_
 rw [e.down]
end Go.AM.G
set_option maxRecDepth 100000
namespace Go.AM.G
open Go Go.AM
theorem Pl.len {Mm : Blk → Mem} {b : Nat} (h : Pl Mm b) : ∃ L, ∀ X, (Mm X).length = L := by
 refine ⟨(Mm .dead).length, fun X => ?_⟩
 have := h.set .dead X []
 rw [List.append_nil, List.append_nil] at this
 rw [← this, List.length_set]
theorem pow_le {l : Nat} (h : 0 < l) : 1 <<< Sort.bitsLen l ≤ 2 * l := by
 rw [Nat.shiftLeft_eq, Nat.one_mul]
 unfold Sort.bitsLen
 rw [if_neg (by omega), Nat.pow_succ]
 have := Nat.log2_self_le (n := l) (by omega)
 omega
def finB (a l M i0 : Nat) : Nat → UInt64 × AN → AN
 | 0, st => st.2
 | k + 1, st => finB a l M i0 k (Sort.breakStep a l M st (i0 + (3 - (k + 1))))
theorem break_eq {d : AN} {a c : Nat} (h : 8 ≤ c - a) : Sort.breakPatterns d a c = finB a (c - a) (1 <<< Sort.bitsLen (c - a)) (a + (c - a) / 4 * 2 - 1) 3 (UInt64.ofNat (c - a), d) := by
 unfold Sort.breakPatterns
 dsimp only
 rw [if_pos h]
 rfl
theorem break_small {d : AN} {a c : Nat} (h : c - a < 8) : Sort.breakPatterns d a c = d := by
 unfold Sort.breakPatterns
 dsimp only
 rw [if_neg (by omega)]
section
variable {Mm : Blk → Mem} {b n cap : Nat} {ex : Bool} {r : List (List V)}
theorem break_spec (h : Pl Mm b) {d : AN} (hd : d.size = n) {a c : Nat} (hac : a < c) (hc : c ≤ n) (hn : n < 100000000000000000) :
  C S n_slices_breakPatternsOrdered_uint64 [sv b n cap ex, .int .i64 (a : Nat), .int .i64 (c : Nat)] (at_ Mm r d) (fun v m' => v = .tup [] ∧ ∃ g, m' = at_ Mm r (Sort.breakPatterns d a c) ++ g) := by
 have i1 := rowA_load
 have i2 := rowA_store
 have i3 := @ix_at b n cap ex
 have i4 := rowA_size
 have hg := h.get
 have hs := h.set
 obtain ⟨L, hL⟩ := h.len
 have q1 : ∀ X Y, (Mm X ++ [Y])[L]? = some Y := fun X Y => by rw [← hL X]; simp
 have q2 : ∀ X Y Z, (Mm X ++ [Y]).set L Z = Mm X ++ [Z] := fun X Y Z => by rw [← hL X]; simp
 have h' := PLift.up h
 clear h
 obtain ⟨l, el⟩ : ∃ l, c - a = l := ⟨_, rfl⟩
 have w0 : IntKind.i64.wrap ((c : Int) - (a : Int)) = (l : Int) := by rw [wrap_i64] <;> omega
 by_cases h8 : 8 ≤ l
 case neg =>
  have c1 : ((8 : Int) ≤ (l : Int)) = False := eq_false (by omega)
  have e := PLift.up (@break_small d a c (by omega))
  refine fn rfl ?_
  exact ⟨[], by rw [e.down]; simp⟩
 have c1 : ((8 : Int) ≤ (l : Int)) = True := eq_true (by omega)
 have eq0 := @break_eq d a c (by omega)
 rw [el] at eq0
 obtain ⟨M, eM⟩ : ∃ M, 1 <<< Sort.bitsLen l = M := ⟨_, rfl⟩
 obtain ⟨i0, ei⟩ : ∃ i0, a + l / 4 * 2 - 1 = i0 := ⟨_, rfl⟩
 rw [eM, ei] at eq0
 have eq' := PLift.up eq0
 clear eq0
 have hM1 : M ≤ 2 * l := by rw [← eM]; exact pow_le (by omega)
 have hM0 : 0 < M := by rw [← eM, Nat.shiftLeft_eq, Nat.one_mul]; exact Nat.two_pow_pos _
 have u0 : IntKind.u64.wrap (l : Int) = (l : Int) := un' (by omega)
 have w1 : (l : Int).tdiv 4 = ((l / 4 : Nat) : Int) := tdivN (b := 4)
 have w1' : IntKind.i64.wrap ((l / 4 : Nat) : Int) = ((l / 4 : Nat) : Int) := by rw [wrap_i64] <;> omega
 have w3 : IntKind.i64.wrap (((l / 4 : Nat) : Int) * 2) = ((l / 4 * 2 : Nat) : Int) := by rw [wrap_i64] <;> omega
 have w6 : IntKind.i64.wrap ((a : Int) + ((l / 4 * 2 : Nat) : Int)) = ((a + l / 4 * 2 : Nat) : Int) := by rw [wrap_i64] <;> omega
 have w7 : IntKind.i64.wrap (((a + l / 4 * 2 : Nat) : Int) - 1) = (i0 : Int) := by rw [wrap_i64] <;> omega
 have w8 : IntKind.i64.wrap (((a + l / 4 * 2 : Nat) : Int) + 1) = ((i0 + 2 : Nat) : Int) := by rw [wrap_i64] <;> omega
 have w9 : IntKind.u64.wrap ((M : Int) - 1) = ((M - 1 : Nat) : Int) := by
  have : (M : Int) - 1 = ((M - 1 : Nat) : Int) := by omega
  rw [this]; exact un' (by omega)
 have c4 : ((4 : Int) = 0) = False := by decide
 have hl0 : (UInt64.ofNat l).toNat = l := by
  rw [UInt64.toNat_ofNat']
  exact Nat.mod_eq_of_lt (by omega)
 refine fn rfl ?_
 refine (pow2_spec (l := l) (by omega)).mono ?_
 rintro _ _ ⟨rfl, rfl⟩
 rw [eM]
 refine am ?_
 let I := fun (k : Nat) (fr : Frame) (m' : Mem) => ∃ (st : UInt64 × AN) (i : Nat), st.2.size = n ∧ k ≤ 3 ∧ i = i0 + (3 - k) ∧ finB a l M i0 k st = Sort.breakPatterns d a c ∧ Has fr [(0, sv b n cap ex), (1, .int .i64 (a : Nat)), (6, .int .i64 (l : Nat)), (7, .ptr L 0 0), (8, .int .u64 (M : Nat)), (9, .int .i64 (i : Nat))] ∧ m' = at_ Mm r st.2 ++ [wrd st.1.toNat]
 refine W_loop I ?_ 3 ⟨(UInt64.ofNat l, d), i0, hd, Nat.le_refl _, rfl, eq'.down.symm, byam, by rw [hl0]⟩
 rintro k fr _ ⟨⟨x, d'⟩, i, hd', hk, hi, hq, F, rfl⟩
 have hq' := PLift.up hq
 clear hq
 have hd' : d'.size = n := hd'
 cases k with
 | zero =>
  have c2 : ((i : Int) ≤ ((i0 + 2 : Nat) : Int)) = False := eq_false (by omega)
  clear hi
  refine into ?_
  exact ⟨_, by rw [← hq'.down]; rfl⟩
 | succ k =>
  have c2 : ((i : Int) ≤ ((i0 + 2 : Nat) : Int)) = True := eq_true (by omega)
  have w10 : IntKind.i64.wrap ((i : Int) + 1) = ((i + 1 : Nat) : Int) := by rw [wrap_i64] <;> omega
  have hx := x.toNat_lt
  obtain ⟨y, ey⟩ : ∃ y, Sort.xorNextN x.toNat = y := ⟨_, rfl⟩
  have hy : y < 18446744073709551616 := by rw [← ey]; exact Sort.xorNextN_lt _ hx
  have ey2 : PLift ((Sort.xorNext x).toNat = y) := ⟨by rw [Sort.xorNext_toNat, ey]⟩
  obtain ⟨o, eo⟩ : ∃ o, y &&& (M - 1) = o := ⟨_, rfl⟩
  have ho : o ≤ M - 1 := by rw [← eo]; exact Nat.and_le_right
  have a1 : IntKind.u64.wrap ↑(BitVec.ofInt IntKind.u64.bits (y : Int) &&& BitVec.ofInt IntKind.u64.bits ((M - 1 : Nat) : Int)).toNat = ((o : Nat) : Int) := by rw [andN hy, eo]
  have a2 : IntKind.i64.wrap (o : Int) = (o : Int) := wn (by omega)
  have li : i < n := by omega
  have li' : i < d'.size := by omega
  have step : PLift (Sort.breakStep a l M (x, d') i = (Sort.xorNext x, Sort.swp d' i (a + (if o ≥ l then o - l else o)))) := ⟨by
   unfold Sort.breakStep
   dsimp only
   rw [ey2.down, eo]⟩
  have ei2 : PLift (i0 + (3 - (k + 1)) = i) := ⟨hi.symm⟩
  have hi' := PLift.up hi
  clear eo ey hi
  refine into ?_
  refine (next_spec (Nn := fun Y => at_ Mm r d' ++ [Y]) (q := L) (x := x.toNat) (fun Y => q1 _ Y) (fun Y Z => q2 _ Y Z) hx).mono ?_
  rintro _ _ ⟨rfl, rfl⟩
  rw [← Sort.xorNext_toNat, ey2.down]
  by_cases hol : l ≤ o
  ·have c3 : ((l : Int) ≤ (o : Int)) = True := eq_true (by omega)
   have w11 : IntKind.i64.wrap ((o : Int) - (l : Int)) = ((o - l : Nat) : Int) := by rw [wrap_i64] <;> omega
   have w12 : IntKind.i64.wrap ((a : Int) + ((o - l : Nat) : Int)) = ((a + (o - l) : Nat) : Int) := by rw [wrap_i64] <;> omega
   have lo : a + (o - l) < n := by omega
   have lo' : a + (o - l) < d'.size := by omega
   refine am ?_
   refine into ?_
   refine ⟨k, by omega, (Sort.xorNext x, Sort.swp d' i (a + (o - l))), i + 1, by rw [swp_size]; exact hd', by omega, by have := hi'.down; omega, ?_, byam, ?_⟩
   ·rw [← hq'.down, finB, ei2.down, step.down, if_pos hol]
   ·rw [ey2.down]; rfl
  ·have c3 : ((l : Int) ≤ (o : Int)) = False := eq_false (by omega)
   have w12 : IntKind.i64.wrap ((a : Int) + (o : Int)) = ((a + o : Nat) : Int) := by rw [wrap_i64] <;> omega
   have lo : a + o < n := by omega
   have lo' : a + o < d'.size := by omega
   refine am ?_
   refine into ?_
   refine ⟨k, by omega, (Sort.xorNext x, Sort.swp d' i (a + o)), i + 1, by rw [swp_size]; exact hd', by omega, by have := hi'.down; omega, ?_, byam, ?_⟩
   ·rw [← hq'.down, finB, ei2.down, step.down, if_neg hol]
   ·rw [ey2.down]; rfl
end
end Go.AM.G
set_option maxRecDepth 100000
namespace Go.AM.G
open Go Go.AM
theorem up_size {c j : Nat} {d : AN} : (Sort.shiftUp ltN c j d).size = d.size := by
 fun_induction Sort.shiftUp ltN c j d <;> simp_all [Sort.swp]
theorem down_size : ∀ {j : Nat} {d : AN}, (Sort.shiftDown ltN j d).size = d.size
 | 0, _ => rfl
 | j + 1, d => by
  rw [Sort.shiftDown]
  split
  ·rfl
  ·rw [down_size, swp_size]
section
variable {Mm : Blk → Mem} {b n cap : Nat} {ex : Bool} {r : List (List V)}
theorem part_up (h : Pl Mm b) {d : AN} (hd : d.size = n) {a c i t : Nat} (hi : i < c) (hi0 : 0 < i) (hc : c ≤ n) (hn : n < 100000000000000000) {fr : Frame} (F : Has fr [(0, sv b n cap ex), (1, .int .i64 (a : Nat)), (2, .int .i64 (c : Nat)), (7, .int .i64 (i : Nat)), (8, .int .i64 (t : Nat))])
  {Q : AExit → Frame → Mem → Prop} (hQ : ∀ fr', Has fr' [(0, sv b n cap ex), (1, .int .i64 (a : Nat)), (2, .int .i64 (c : Nat)), (7, .int .i64 (i : Nat)), (8, .int .i64 (t : Nat))] → Q .normal fr' (at_ Mm r (if c - i ≥ 2 then Sort.shiftUp ltN c (i + 1) d else d))) :
  W S slices_partialInsertionSortOrdered_uint64_j0 fr (at_ Mm r d) Q := by
 have i1 := rowA_load
 have i2 := rowA_store
 have i3 := @ix_at b n cap ex
 have i4 := rowA_size
 have hg0 : ∀ X, (Mm X)[b]? = some X := fun X => by have := h.get X []; simpa using this
 have hs0 : ∀ X Y, (Mm X).set b Y = Mm Y := fun X Y => by have := h.set X Y []; simpa using this
 have hQ' := PLift.up hQ
 clear h hQ
 have w0 : IntKind.i64.wrap ((c : Int) - (i : Int)) = ((c - i : Nat) : Int) := by rw [wrap_i64] <;> omega
 by_cases h2 : 2 ≤ c - i
 case neg =>
  have c1 : ((2 : Int) ≤ ((c - i : Nat) : Int)) = False := eq_false (by omega)
  refine into ?_
  have := hQ'.down (put (put (put (put fr 95 (.int .i64 (c : Nat))) 96 (.int .i64 (i : Nat))) 97 (.int .i64 ((c - i : Nat) : Nat))) 98 (.bool (decide ((2 : Int) ≤ ((c - i : Nat) : Int))))) byam
  rw [if_neg h2] at this
  simp only [c1, decide_false] at this
  exact this
 have c1 : ((2 : Int) ≤ ((c - i : Nat) : Int)) = True := eq_true (by omega)
 have w1 : IntKind.i64.wrap ((i : Int) + 1) = ((i + 1 : Nat) : Int) := by rw [wrap_i64] <;> omega
 have q0 := PLift.up (if_pos h2 : (if c - i ≥ 2 then Sort.shiftUp ltN c (i + 1) d else d) = _)
 refine into ?_
 let I := fun (k : Nat) (fr : Frame) (m' : Mem) => ∃ (j : Nat) (d' : AN), k = c + 1 - j ∧ 0 < j ∧ j ≤ c ∧ d'.size = n ∧ Sort.shiftUp ltN c j d' = Sort.shiftUp ltN c (i + 1) d ∧ Has fr [(0, sv b n cap ex), (1, .int .i64 (a : Nat)), (2, .int .i64 (c : Nat)), (7, .int .i64 (i : Nat)), (8, .int .i64 (t : Nat)), (10, .int .i64 (j : Nat))] ∧ m' = at_ Mm r d'
 refine W_loop I ?_ (c + 1 - (i + 1)) ⟨i + 1, d, rfl, by omega, by omega, hd, rfl, byam, rfl⟩
 rintro k fr _ ⟨j, d', rfl, hj0, hjc, hd', hq, F, rfl⟩
 have hq' := PLift.up hq
 clear hq
 by_cases hjlt : j < c
 case neg =>
  have c2 : ((j : Int) < (c : Int)) = False := eq_false (by omega)
  refine into ?_
  have := hQ'.down _ (show Has (put (put (put fr 101 (.int .i64 (j : Nat))) 102 (.int .i64 (c : Nat))) 103 (.bool false)) _ from byam)
  rw [q0.down, ← hq'.down, Sort.shiftUp, if_neg hjlt] at this
  exact this
 have c2 : ((j : Int) < (c : Int)) = True := eq_true (by omega)
 have w2 : IntKind.i64.wrap ((j : Int) - 1) = ((j - 1 : Nat) : Int) := by rw [wrap_i64] <;> omega
 have w3 : IntKind.i64.wrap ((j : Int) + 1) = ((j + 1 : Nat) : Int) := by rw [wrap_i64] <;> omega
 have l1 : j < n := by omega
 have l2 : j - 1 < n := by omega
 have l1' : j < d'.size := by omega
 have l2' : j - 1 < d'.size := by omega
 have hu : PLift (Sort.shiftUp ltN c j d' = if ltN d'[j]! d'[j - 1]! = true then Sort.shiftUp ltN c (j + 1) (Sort.swp d' j (j - 1)) else d') := ⟨by
  rw [Sort.shiftUp, if_pos hjlt]
  cases ltN d'[j]! d'[j - 1]! <;> simp⟩
 refine into ?_
 refine LessS_spec.mono ?_
 rintro _ _ ⟨rfl, rfl⟩
 cases hl : ltN d'[j]! d'[j - 1]! with
 | false =>
  refine am ?_
  have e : Sort.shiftUp ltN c (i + 1) d = d' := by rw [← hq'.down, hu.down, hl]; rfl
  have := fun fr' => hQ'.down fr'
  rw [q0.down, e] at this
  exact this _ byam
 | true =>
  refine am ?_
  refine ⟨c + 1 - (j + 1), by omega, j + 1, Sort.swp d' j (j - 1), rfl, by omega, by omega, by rw [swp_size]; exact hd', ?_, byam, rfl⟩
  rw [← hq'.down, hu.down, hl]; rfl
end
end Go.AM.G
set_option maxRecDepth 100000
namespace Go.AM.G
open Go Go.AM
def stepP (a c i : Nat) (d : AN) : AN :=
 let d := Sort.swp d i (i - 1)
 let d := if i - a ≥ 2 then Sort.shiftDown ltN (i - 1) d else d
 if c - i ≥ 2 then Sort.shiftUp ltN c (i + 1) d else d
theorem stepP_size {a c i : Nat} {d : AN} : (stepP a c i d).size = d.size := by
 unfold stepP
 dsimp only
 split <;> split <;> simp [up_size, down_size, swp_size]
theorem partial_step {a c s i : Nat} {d : AN} : Sort.partialIns ltN a c (s + 1) i d = if Sort.scanSorted ltN d c i = c then (d, true) else if c - a < 50 then (d, false) else Sort.partialIns ltN a c s (Sort.scanSorted ltN d c i) (stepP a c (Sort.scanSorted ltN d c i) d) := rfl
theorem part_size {a c : Nat} : ∀ {s i : Nat} {d : AN}, (Sort.partialIns ltN a c s i d).1.size = d.size
 | 0, _, _ => rfl
 | s + 1, i, d => by
  rw [partial_step]
  split
  ·rfl
  ·split
   ·rfl
   ·rw [part_size, stepP_size]
section
variable {Mm : Blk → Mem} {b n cap : Nat} {ex : Bool} {r : List (List V)}
theorem partial_spec (h : Pl Mm b) {d : AN} (hd : d.size = n) {a c : Nat} (hac : a < c) (hc : c ≤ n) (hn : n < 100000000000000000) :
  C S n_slices_partialInsertionSortOrdered_uint64 [sv b n cap ex, .int .i64 (a : Nat), .int .i64 (c : Nat)] (at_ Mm r d) (fun v m' => v = .bool (Sort.partialInsertionSort ltN d a c).2 ∧ m' = at_ Mm r (Sort.partialInsertionSort ltN d a c).1) := by
 have i1 := rowA_load
 have i2 := rowA_store
 have i3 := @ix_at b n cap ex
 have i4 := rowA_size
 have hg0 : ∀ X, (Mm X)[b]? = some X := fun X => by have := h.get X []; simpa using this
 have hs0 : ∀ X Y, (Mm X).set b Y = Mm Y := fun X Y => by have := h.set X Y []; simpa using this
 have h' := PLift.up h
 clear h
 have w0 : IntKind.i64.wrap ((a : Int) + 1) = ((a + 1 : Nat) : Int) := by rw [wrap_i64] <;> omega
 have w00 : IntKind.i64.wrap ((c : Int) - (a : Int)) = ((c - a : Nat) : Int) := by rw [wrap_i64] <;> omega
 refine fn rfl ?_
 let I := fun (k : Nat) (fr : Frame) (m' : Mem) => ∃ (t i : Nat) (d' : AN), k ≤ 5 ∧ t + k = 5 ∧ a < i ∧ i ≤ c ∧ d'.size = n ∧ Sort.partialIns ltN a c k i d' = Sort.partialInsertionSort ltN d a c ∧ Has fr [(0, sv b n cap ex), (1, .int .i64 (a : Nat)), (2, .int .i64 (c : Nat)), (7, .int .i64 (i : Nat)), (8, .int .i64 (t : Nat))] ∧ m' = at_ Mm r d'
 refine W_loop I ?_ 5 ⟨0, a + 1, d, by omega, rfl, by omega, by omega, hd, rfl, byam, rfl⟩
 rintro k fr _ ⟨t, i, d', hk, ht, hai, hic, hd', hq, F, rfl⟩
 have hq' := PLift.up hq
 clear hq
 cases k with
 | zero =>
  have c2 : ((t : Int) < 5) = False := eq_false (by omega)
  refine into ?_
  rw [← hq'.down]; exact ⟨rfl, rfl⟩
 | succ k =>
  have c2 : ((t : Int) < 5) = True := eq_true (by omega)
  have w1 : IntKind.i64.wrap ((t : Int) + 1) = ((t + 1 : Nat) : Int) := by rw [wrap_i64] <;> omega
  have ht' := PLift.up ht
  clear ht
  refine into ?_
  let I2 := fun (kk : Nat) (fr : Frame) (m' : Mem) => ∃ j : Nat, kk = c + 1 - j ∧ a < j ∧ j ≤ c ∧ Sort.scanSorted ltN d' c j = Sort.scanSorted ltN d' c i ∧ Has fr [(0, sv b n cap ex), (1, .int .i64 (a : Nat)), (2, .int .i64 (c : Nat)), (7, .int .i64 (j : Nat)), (8, .int .i64 (t : Nat))] ∧ m' = at_ Mm r d'
  refine W_loop I2 ?_ (c + 1 - i) ⟨i, rfl, hai, hic, rfl, byam, rfl⟩
  rintro kk fr _ ⟨j, rfl, haj, hjc, hqj, F, rfl⟩
  have hqj' := PLift.up hqj
  clear hqj
  -- behind the scan, at j
  have fin : PLift (Sort.scanSorted ltN d' c j = j) → ∀ {fr' : Frame}, Has fr' [(0, sv b n cap ex), (1, .int .i64 (a : Nat)), (2, .int .i64 (c : Nat)), (7, .int .i64 (j : Nat)), (8, .int .i64 (t : Nat))] → PLift (True) := fun _ _ _ => ⟨trivial⟩
  by_cases hgo : j < c ∧ ltN d'[j]! d'[j - 1]! = false
  ·obtain ⟨hjlt, hl⟩ := hgo
   have c3 : ((j : Int) < (c : Int)) = True := eq_true (by omega)
   have w2 : IntKind.i64.wrap ((j : Int) - 1) = ((j - 1 : Nat) : Int) := by rw [wrap_i64] <;> omega
   have w3 : IntKind.i64.wrap ((j : Int) + 1) = ((j + 1 : Nat) : Int) := by rw [wrap_i64] <;> omega
   have l1 : j < n := by omega
   have l2 : j - 1 < n := by omega
   have l1' : j < d'.size := by omega
   have l2' : j - 1 < d'.size := by omega
   have hu : PLift (Sort.scanSorted ltN d' c j = Sort.scanSorted ltN d' c (j + 1)) := ⟨by
    conv => lhs; rw [Sort.scanSorted, if_pos (by rw [hl]; simp [hjlt])]⟩
   refine into ?_
   refine LessS_spec.mono ?_
   rintro _ _ ⟨rfl, rfl⟩
   refine am ?_
   exact ⟨c + 1 - (j + 1), by omega, j + 1, rfl, by omega, by omega, by rw [← hqj'.down, hu.down], byam, rfl⟩
  have hst : PLift (Sort.scanSorted ltN d' c i = j) := ⟨by
   rw [← hqj'.down, Sort.scanSorted, if_neg]
   intro e
   simp only [Bool.and_eq_true, decide_eq_true_eq, Bool.not_eq_true'] at e
   exact hgo e⟩
  have tgt : PLift (Sort.partialInsertionSort ltN d a c = if j = c then (d', true) else if c - a < 50 then (d', false) else Sort.partialIns ltN a c k j (stepP a c j d')) := ⟨by rw [← hq'.down, partial_step, hst.down]⟩
  by_cases hjlt : j < c
  case neg =>
   have ejc : j = c := by omega
   subst ejc
   have c3 : ((j : Int) < (j : Int)) = False := eq_false (by omega)
   have e := PLift.up (if_pos rfl : (if j = j then ((d', true) : AN × Bool) else if j - a < 50 then (d', false) else Sort.partialIns ltN a j k j (stepP a j j d')) = _)
   clear hgo
   refine into ?_
   rw [tgt.down, e.down]; exact ⟨rfl, rfl⟩
  have hl : ltN d'[j]! d'[j - 1]! = true := by
   cases h : ltN d'[j]! d'[j - 1]! with
   | true => rfl
   | false => exact absurd ⟨hjlt, h⟩ hgo
  clear hgo
  have c3 : ((j : Int) < (c : Int)) = True := eq_true (by omega)
  have c4 : ((j : Int) = (c : Int)) = False := eq_false (by omega)
  have w2 : IntKind.i64.wrap ((j : Int) - 1) = ((j - 1 : Nat) : Int) := by rw [wrap_i64] <;> omega
  have w4 : IntKind.i64.wrap ((j : Int) - (a : Int)) = ((j - a : Nat) : Int) := by rw [wrap_i64] <;> omega
  have l1 : j < n := by omega
  have l2 : j - 1 < n := by omega
  have l1' : j < d'.size := by omega
  have l2' : j - 1 < d'.size := by omega
  have hjne : ¬ j = c := by omega
  by_cases h50 : c - a < 50
  ·have c5 : (((c - a : Nat) : Int) < 50) = True := eq_true (by omega)
   have e := PLift.up (tgt.down.trans ((if_neg hjne).trans (if_pos h50)))
   clear hjne tgt
   refine into ?_
   refine LessS_spec.mono ?_
   rintro _ _ ⟨rfl, rfl⟩
   refine am ?_
   rw [e.down]; exact ⟨rfl, rfl⟩
  have c5 : (((c - a : Nat) : Int) < 50) = False := eq_false (by omega)
  have e := PLift.up (tgt.down.trans ((if_neg hjne).trans (if_neg h50)))
  clear hjne tgt
  have fin2 : ∀ (fr' : Frame) (m' : Mem), Has fr' [(0, sv b n cap ex), (1, .int .i64 (a : Nat)), (2, .int .i64 (c : Nat)), (7, .int .i64 (j : Nat)), (8, .int .i64 ((t + 1 : Nat) : Nat))] → m' = at_ Mm r (stepP a c j d') → ∃ kk, kk < k + 1 ∧ I kk fr' m' := fun fr' m' F' e' => ⟨k, by omega, t + 1, j, stepP a c j d', by omega, by have := ht'.down; omega, haj, hjc, by rw [stepP_size]; exact hd', e.down.symm, F', e'⟩
  have fin2' := PLift.up fin2
  clear fin2 fin
  by_cases h2 : 2 ≤ j - a
  case neg =>
   have c6 : ((2 : Int) ≤ ((j - a : Nat) : Int)) = False := eq_false (by omega)
   have es : PLift ((if c - j ≥ 2 then Sort.shiftUp ltN c (j + 1) (Sort.swp d' j (j - 1)) else Sort.swp d' j (j - 1)) = stepP a c j d') := ⟨by unfold stepP; dsimp only; rw [if_neg h2]⟩
   refine into ?_
   refine LessS_spec.mono ?_
   rintro _ _ ⟨rfl, rfl⟩
   refine am ?_
   refine part_up (cap := cap) (ex := ex) (d := Sort.swp d' j (j - 1)) (a := a) (i := j) (t := t) h'.down (by rw [swp_size]; exact hd') hjlt (by omega) hc hn byam ?_
   intro fr' F
   rw [es.down]
   refine into ?_
   exact fin2'.down _ _ byam rfl
  have c6 : ((2 : Int) ≤ ((j - a : Nat) : Int)) = True := eq_true (by omega)
  refine into ?_
  refine LessS_spec.mono ?_
  rintro _ _ ⟨rfl, rfl⟩
  refine am ?_
  let I3 := fun (q : Nat) (fr : Frame) (m' : Mem) => ∃ d2 : AN, q ≤ j - 1 ∧ d2.size = n ∧ Sort.shiftDown ltN q d2 = Sort.shiftDown ltN (j - 1) (Sort.swp d' j (j - 1)) ∧ Has fr [(0, sv b n cap ex), (1, .int .i64 (a : Nat)), (2, .int .i64 (c : Nat)), (7, .int .i64 (j : Nat)), (8, .int .i64 (t : Nat)), (9, .int .i64 (q : Nat))] ∧ m' = at_ Mm r d2
  refine W_loop I3 ?_ (j - 1) ⟨Sort.swp d' j (j - 1), Nat.le_refl _, by rw [swp_size]; exact hd', rfl, byam, rfl⟩
  rintro q fr _ ⟨d2, hqj, hd2, hqd, F, rfl⟩
  have hqd' := PLift.up hqd
  clear hqd
  have leave : PLift (Sort.shiftDown ltN q d2 = d2) → PLift ((if c - j ≥ 2 then Sort.shiftUp ltN c (j + 1) d2 else d2) = stepP a c j d') := fun hs => ⟨by
   unfold stepP; dsimp only; rw [if_pos h2, ← hqd'.down, hs.down]⟩
  have leave' := PLift.up leave
  clear leave
  cases q with
  | zero =>
   have es := leave'.down ⟨rfl⟩
   refine into ?_
   refine part_up (cap := cap) (ex := ex) (d := d2) (a := a) (i := j) (t := t) h'.down hd2 hjlt (by omega) hc hn byam ?_
   intro fr' F
   rw [es.down]
   refine into ?_
   exact fin2'.down _ _ byam rfl
  | succ q =>
   have c7 : ((1 : Int) ≤ ((q + 1 : Nat) : Int)) = True := eq_true (by omega)
   have w5 : IntKind.i64.wrap (((q + 1 : Nat) : Int) - 1) = (q : Int) := by rw [wrap_i64] <;> omega
   have l3 : q + 1 < n := by omega
   have l4 : q < n := by omega
   have l3' : q + 1 < d2.size := by omega
   have l4' : q < d2.size := by omega
   refine into ?_
   refine LessS_spec.mono ?_
   rintro _ _ ⟨rfl, rfl⟩
   cases hl2 : ltN d2[q + 1]! d2[q]! with
   | false =>
    have es := leave'.down ⟨by rw [Sort.shiftDown, if_pos (by rw [hl2]; rfl)]⟩
    refine am ?_
    refine part_up (cap := cap) (ex := ex) (d := d2) (a := a) (i := j) (t := t) h'.down hd2 hjlt (by omega) hc hn byam ?_
    intro fr' F
    rw [es.down]
    refine into ?_
    exact fin2'.down _ _ byam rfl
   | true =>
    refine am ?_
    refine ⟨q, by omega, Sort.swp d2 (q + 1) q, by omega, by rw [swp_size]; exact hd2, ?_, byam, rfl⟩
    rw [← hqd'.down]
    conv => rhs; rw [Sort.shiftDown, if_neg (by rw [hl2]; decide)]
end
end Go.AM.G
