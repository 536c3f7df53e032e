/- Classes, and heads: of the program and of the document. -/
import Derived.Test.YtkimcedmfnoeoaaGreatDoorHpB
set_option linter.unusedVariables false
set_option linter.unusedSimpArgs false
set_option maxRecDepth 100000
namespace Go.AM.G
open Go Go.AM
def cls (w : Nat) : Int := if w ≤ 2 then 0 else if w ≤ 4 then 1 else if w ≤ 8 then 2 else if w ≤ 16 then 3 else -1
def siz (w : Nat) : Nat := if w ≤ 2 then 2 else if w ≤ 4 then 4 else if w ≤ 8 then 8 else if w ≤ 16 then 16 else 0
theorem cls_len : ∀ w : Nat, w < 17 → 1 ≤ w → (if ((Go.Lib.bitLen (w - 1) : Nat) : Int) - 1 > 0 then ((Go.Lib.bitLen (w - 1) : Nat) : Int) - 1 else 0) = cls w := by decide +kernel
theorem cls_all (w : Nat) : (cls w = -1 ∧ siz w = 0) ∨ (cls w = 0 ∧ siz w = 2) ∨ (cls w = 1 ∧ siz w = 4) ∨ (cls w = 2 ∧ siz w = 8) ∨ (cls w = 3 ∧ siz w = 16) := by
 unfold cls siz
 by_cases h1 : w ≤ 2
 ·simp [h1]
 by_cases h2 : w ≤ 4
 ·simp [h1, h2]
 by_cases h3 : w ≤ 8
 ·simp [h1, h2, h3]
 by_cases h4 : w ≤ 16
 ·simp [h1, h2, h3, h4]
 ·simp [h1, h2, h3, h4]
theorem class_Of_spec {m : Mem} {w : Nat} (h1 : 1 ≤ w) (h2 : w ≤ 49) : C S n_class_Of [.int .i64 (w : Nat)] m (fun r m' => r = .tup [.int .i64 (cls w), .int .i64 0] ∧ Grow m m') := by
 have c1 : ((w : Int) < 1) = False := eq_false (by omega)
 have c2 : ((49 : Int) < (w : Int)) = False := eq_false (by omega)
 by_cases h3 : 16 < w
 ·have c3 : ((16 : Int) < (w : Int)) = True := eq_true (by omega)
  have c4 : cls w = -1 := by unfold cls; rw [if_neg (by omega), if_neg (by omega), if_neg (by omega), if_neg (by omega)]
  have G := Grow.refl m
  refine fn rfl ?_
  trivial
 ·have c3 : ((16 : Int) < (w : Int)) = False := eq_false (by omega)
  have w1 : IntKind.i64.wrap ((w : Int) - 1) = ((w - 1 : Nat) : Int) := by rw [wrap_i64] <;> omega
  have w2 := un' (a := w - 1) (by omega)
  have hb : Go.Lib.bitLen (w - 1) ≤ 64 := Go.Lib.bitLen_le _ 64 (by decide) (by omega)
  have w3 : IntKind.i64.wrap (((Go.Lib.bitLen (w - 1) : Nat) : Int) - 1) = ((Go.Lib.bitLen (w - 1) : Nat) : Int) - 1 := by rw [wrap_i64] <;> omega
  have e := cls_len w (by omega) h1
  have G := Grow.refl m
  refine fn rfl ?_
  refine (Len_spec (n := w - 1) (by omega)).mono ?_
  rintro _ _ ⟨rfl, rfl⟩
  rw [aft_mk]
  refine am ?_
  trivial
theorem class_Size_spec {m : Mem} {w : Nat} : C S n_class_Size [.int .i64 (cls w)] m (fun r m' => ∃ e, r = .tup [.int .i64 (siz w : Nat), .int .i64 e] ∧ Grow m m') := by
 have G := Grow.refl m
 rcases cls_all w with ⟨a, b⟩ | ⟨a, b⟩ | ⟨a, b⟩ | ⟨a, b⟩ | ⟨a, b⟩
 ·rw [a, b]
  have c1 : ((-1 : Int) < 0) = True := eq_true (by decide)
  refine fn rfl ?_
  exact ⟨_, rfl⟩
 all_goals
  rw [a, b]
  refine fn rfl ?_
  exact ⟨_, rfl, (Grow.refl _).app⟩
def npg (w : Nat) : Nat := (w + 15) / 16
theorem class_Pages_spec {m : Mem} {w : Nat} (h1 : 1 ≤ w) (h2 : w ≤ 49) : C S n_class_Pages [.int .i64 (w : Nat)] m (fun r m' => r = .tup [.int .i64 (npg w : Nat), .int .i64 0] ∧ Grow m m') := by
 have w1 : IntKind.i64.wrap ((w : Int) + 16) = ((w + 16 : Nat) : Int) := by rw [wrap_i64] <;> omega
 have w2 : IntKind.i64.wrap (((w + 16 : Nat) : Int) - 1) = ((w + 15 : Nat) : Int) := by rw [wrap_i64] <;> omega
 have q : (((w + 15 : Nat) : Int)).tdiv 16 = ((npg w : Nat) : Int) := tdivN (b := 16)
 have w3 := wn (a := npg w) (by unfold npg; omega)
 refine fn rfl ?_
 refine (class_Of_spec h1 h2).mono ?_
 rintro _ _ ⟨rfl, G⟩
 rw [aft_mk]
 refine am ?_
 trivial
theorem heap_sizes_spec {m : Mem} {w : Nat} (h1 : 1 ≤ w) (h2 : w ≤ 49) : C S n_heap_sizes [.int .i64 (w : Nat)] m (fun r m' => r = .tup [.int .i64 (siz w : Nat), .int .i64 (npg w : Nat)] ∧ Grow m m') := by
 refine fn rfl ?_
 refine (class_Of_spec h1 h2).mono ?_
 rintro _ _ ⟨rfl, G1⟩
 rw [aft_mk]
 refine am ?_
 refine class_Size_spec.mono ?_
 rintro _ _ ⟨e, rfl, G2⟩
 rw [aft_mk]
 refine am ?_
 refine (class_Pages_spec h1 h2).mono ?_
 rintro _ _ ⟨rfl, G3⟩
 rw [aft_mk]
 refine am ?_
 exact (G1.trans G2).trans G3
theorem ref04_Size_spec {m : Mem} {w : Nat} : C S n_ref04_Size [.int .i64 (cls w)] m (fun r m' => r = .tup [.int .i64 (siz w : Nat), .int .i64 (if cls w = -1 then 1 else 0)] ∧ Grow m m') := by
 have G := Grow.refl m
 rcases cls_all w with ⟨a, b⟩ | ⟨a, b⟩ | ⟨a, b⟩ | ⟨a, b⟩ | ⟨a, b⟩
 all_goals
  rw [a, b]
  refine fn rfl ?_
  trivial
theorem ref04_Size_at {m : Mem} {c : Nat} (hc : c < 4) : C S n_ref04_Size [.int .i64 (c : Nat)] m (fun r m' => r = .tup [.int .i64 (2 ^ (c + 1) : Nat), .int .i64 0] ∧ Grow m m') := by
 have G := Grow.refl m
 match c, hc with
 | 0, _ => refine fn rfl ?_; trivial
 | 1, _ => refine fn rfl ?_; trivial
 | 2, _ => refine fn rfl ?_; trivial
 | 3, _ => refine fn rfl ?_; trivial
theorem cls_at {w c : Nat} (h : c ≤ 4) (h1 : 1 ≤ w) (hc : ∀ k, k < c → 2 ^ (k + 1) < w) (hw : c < 4 → w ≤ 2 ^ (c + 1)) : cls w = if c < 4 then (c : Int) else -1 := by
 have a0 := hc 0
 have a1 := hc 1
 have a2 := hc 2
 have a3 := hc 3
 unfold cls
 match c, h with
 | 0, _ => have := hw (by decide); rw [if_pos (by omega)]; rfl
 | 1, _ => have := hw (by decide); have := a0 (by decide); rw [if_neg (by omega), if_pos (by omega)]; rfl
 | 2, _ => have := hw (by decide); have := a1 (by decide); rw [if_neg (by omega), if_neg (by omega), if_pos (by omega)]; rfl
 | 3, _ => have := hw (by decide); have := a2 (by decide); rw [if_neg (by omega), if_neg (by omega), if_neg (by omega), if_pos (by omega)]; rfl
 | 4, _ => have := a3 (by decide); rw [if_neg (by omega), if_neg (by omega), if_neg (by omega), if_neg (by omega)]; rfl
theorem ref04_Of_spec {m : Mem} {w : Nat} (h1 : 1 ≤ w) (h2 : w ≤ 49) : C S n_ref04_Of [.int .i64 (w : Nat)] m (fun r m' => r = .tup [.int .i64 (cls w), .int .i64 0] ∧ Grow m m') := by
 have c1 : ((w : Int) < 1) = False := eq_false (by omega)
 have c2 : ((49 : Int) < (w : Int)) = False := eq_false (by omega)
 refine fn rfl ?_
 let I := fun (j : Nat) (fr : Frame) (M : Mem) => ∃ c : Nat, c ≤ 4 ∧ j = 4 - c ∧ Has fr [(0, .int .i64 (w : Nat)), (4, .int .i64 (c : Nat))] ∧ Grow m M ∧ ∀ k, k < c → 2 ^ (k + 1) < w
 refine W_loop I ?_ 4 ⟨0, by omega, rfl, byam, Grow.refl _, fun k h => absurd h (Nat.not_lt_zero _)⟩
 rintro j fr M ⟨c, hc, rfl, F, G, hk⟩
 by_cases h4 : c < 4
 ·have c3 : ((c : Int) < 4) = True := eq_true (by omega)
  refine into ?_
  refine (ref04_Size_at h4).mono ?_
  rintro _ M2 ⟨rfl, G2⟩
  rw [aft_mk]
  have G3 := G.trans G2
  by_cases h5 : w ≤ 2 ^ (c + 1)
  ·have c4 : ((w : Int) ≤ ((2 ^ (c + 1) : Nat) : Int)) = True := eq_true (by omega)
   have e := cls_at hc h1 hk (fun _ => h5)
   rw [if_pos h4] at e
   clear hk h5
   refine am ?_
   trivial
  ·have c4 : ((w : Int) ≤ ((2 ^ (c + 1) : Nat) : Int)) = False := eq_false (by omega)
   have w3 : IntKind.i64.wrap ((c : Int) + 1) = ((c + 1 : Nat) : Int) := by rw [wrap_i64] <;> omega
   have hk2 : ∀ k, k < c + 1 → 2 ^ (k + 1) < w := fun k h => by
    by_cases e : k = c
    ·subst e; omega
    ·exact hk k (by omega)
   clear hk h5
   refine am ?_
   exact ⟨_, by omega, c + 1, by omega, rfl, byam, G3, hk2⟩
 ·have c3 : ((c : Int) < 4) = False := eq_false (by omega)
  have e := cls_at hc h1 hk (fun h => absurd h h4)
  rw [if_neg h4] at e
  clear hk
  refine into ?_
  trivial
theorem ref04_Pages_spec {m : Mem} {w : Nat} (h1 : 1 ≤ w) (h2 : w ≤ 49) : C S n_ref04_Pages [.int .i64 (w : Nat)] m (fun r m' => r = .tup [.int .i64 (npg w : Nat), .int .i64 0] ∧ Grow m m') := by
 refine fn rfl ?_
 refine (ref04_Of_spec h1 h2).mono ?_
 rintro _ M1 ⟨rfl, G⟩
 rw [aft_mk]
 by_cases h3 : w ≤ 16
 ·have c1 : ((0 : Int) ≤ cls w) = True := eq_true (by
   have : w ≤ 2 ∨ ¬ w ≤ 2 := by omega
   unfold cls; repeat' split
   all_goals first | omega | decide)
  have e : npg w = 1 := by unfold npg; omega
  refine am ?_
  trivial
 ·have c1 : ((0 : Int) ≤ cls w) = False := eq_false (by unfold cls; rw [if_neg (by omega), if_neg (by omega), if_neg (by omega), if_neg (by omega)]; decide)
  refine am ?_
  let I := fun (j : Nat) (fr : Frame) (M : Mem) => ∃ c : Nat, c ≤ npg w ∧ j = npg w - c ∧ Has fr [(0, .int .i64 (w : Nat)), (6, .int .i64 (c : Nat))] ∧ Grow m M
  refine W_loop I ?_ (npg w) ⟨0, by omega, rfl, byam, G⟩
  rintro j fr M ⟨c, hc, rfl, F, G⟩
  have w1 : IntKind.i64.wrap ((c : Int) * 16) = ((c * 16 : Nat) : Int) := by unfold npg at hc; rw [wrap_i64] <;> omega
  have w3 : IntKind.i64.wrap ((c : Int) + 1) = ((c + 1 : Nat) : Int) := by unfold npg at hc; rw [wrap_i64] <;> omega
  by_cases h4 : c * 16 < w
  ·have c3 : (((c * 16 : Nat) : Int) < (w : Int)) = True := eq_true (by omega)
   refine into ?_
   exact ⟨_, by unfold npg; omega, c + 1, by unfold npg; omega, rfl, byam, G⟩
  ·have c3 : (((c * 16 : Nat) : Int) < (w : Int)) = False := eq_false (by omega)
   refine into ?_
   have e : c = npg w := by unfold npg at hc ⊢; omega
   rw [e]
end Go.AM.G
set_option maxRecDepth 100000
namespace Go.AM.G
open Go Go.AM
theorem len_le {M N : Nat} (hM : M < 18446744073709551616) : Go.Lib.bitLen M ≤ N ↔ M < 2 ^ N := by
 by_cases h0 : M = 0
 ·subst h0
  have : Go.Lib.bitLen 0 = 0 := rfl
  rw [this]
  exact ⟨fun _ => Nat.two_pow_pos N, fun _ => Nat.zero_le _⟩
 ·obtain ⟨h1, h2, h3⟩ := Go.Lib.bitLenAux_bounds 64 M (by omega) h0
  constructor
  ·intro h
   exact Nat.lt_of_lt_of_le h3 (Nat.pow_le_pow_right (by decide) h)
  ·intro h
   refine Classical.byContradiction fun h4 => ?_
   have : 2 ^ N ≤ 2 ^ (Go.Lib.bitLenAux 64 M - 1) := Nat.pow_le_pow_right (by decide) (by show N ≤ Go.Lib.bitLen M - 1; omega)
   omega
def shOk (N : Int) (M : Nat) : Prop := 0 ≤ N ∧ N ≤ 48 ∧ M < 2 ^ N.toNat
theorem head_Check_spec {m : Mem} {N : Int} {M : Nat} (hM : M < 18446744073709551616) : C S n_head_Check [.agg [.int .i64 N, .int .u64 (M : Nat)]] m (fun r m' => okE (shOk N M) r ∧ Grow m m') := by
 have G : Grow m (m ++ [Blk.cells true [[V.int .i64 N, V.int .u64 (M : Nat)]]]) := (Grow.refl _).app
 by_cases h0 : N < 0
 ·refine fn rfl ?_
  exact .inr ⟨fun h => by have := h.1; omega, rfl⟩
 by_cases h1 : 48 < N
 ·refine fn rfl ?_
  exact .inr ⟨fun h => by have := h.2.1; omega, rfl⟩
 obtain ⟨a, rfl⟩ : ∃ a : Nat, N = a := ⟨N.toNat, by omega⟩
 have hl := len_le (N := a) hM
 refine fn rfl ?_
 refine (Len64_spec hM).mono ?_
 rintro _ _ ⟨rfl, rfl⟩
 rw [aftC_mk]
 refine ⟨by simp [chkOk, wantedA, Arg.get, put, putO, loadV, part, V.beq], ?_⟩
 by_cases h2 : Go.Lib.bitLen M ≤ a
 ·have c1 : ((a : Int) < ((Go.Lib.bitLen M : Nat) : Int)) = False := eq_false (by omega)
  have h3 := hl.1 h2
  clear hl h2
  refine am ?_
  exact .inl ⟨⟨by omega, by omega, by simpa using h3⟩, rfl⟩
 ·have c1 : ((a : Int) < ((Go.Lib.bitLen M : Nat) : Int)) = True := eq_true (by omega)
  have h3 : ¬ shOk a M := fun h => h2 (hl.2 (by simpa using h.2.2))
  clear hl h2
  refine am ?_
  exact .inr ⟨id, rfl⟩
def unM (w : Nat) : Nat := w / 256 % 281474976710656
def unOk (w : Nat) : Prop := w / 72057594037927936 = 165 ∧ w % 256 ≤ 48 ∧ unM w < 2 ^ (w % 256)
def UnR (w : Nat) (r : V) : Prop := (unOk w ∧ r = .tup [.agg [.int .i64 (w % 256 : Nat), .int .u64 (unM w : Nat)], .int .i64 0]) ∨ (¬ unOk w ∧ r = .tup [.agg [.int .i64 0, .int .u64 0], .int .i64 2])
theorem head_Unpack_spec {m : Mem} {w : Nat} (hw : w < 18446744073709551616) : C S n_head_Unpack [.int .u64 (w : Nat)] m (fun r m' => UnR w r ∧ Grow m m') := by
 have a1 : IntKind.u64.wrap ↑(BitVec.ofInt IntKind.u64.bits (w : Int) &&& BitVec.ofInt IntKind.u64.bits 255).toNat = ((w % 256 : Nat) : Int) := by
  have := andN (a := w) (b := 255) hw
  rw [show (255 : Nat) = 2 ^ 8 - 1 from rfl, Nat.and_two_pow_sub_one_eq_mod] at this
  exact this
 have a2 := wn (a := w % 256) (by omega)
 have a3 : shI .shl .u64 (w : Int) 8 = some (.int .u64 ((w * 256 % 18446744073709551616 : Nat) : Int)) := by
  unfold shI
  rw [if_neg (by decide)]
  have : (w : Int) * 2 ^ (Nat.min (8 : Int).toNat IntKind.u64.bits) = ((w * 256 : Nat) : Int) := by
   show (w : Int) * 256 = _
   omega
  simp only [this, Option.some.injEq, V.int.injEq, true_and]
  rw [IntKind.wrap_u64]; omega
 have a4 : shI .shr .u64 ((w * 256 % 18446744073709551616 : Nat) : Int) 16 = some (.int .u64 ((unM w : Nat) : Int)) := by
  have := shrN (w := w * 256 % 18446744073709551616) (k := 16) (by omega) (by decide)
  have e : (w * 256 % 18446744073709551616) >>> 16 = unM w := by rw [Nat.shiftRight_eq_div_pow]; unfold unM; omega
  rw [e] at this
  exact this
 have a5 : shI .shr .u64 (w : Int) 56 = some (.int .u64 ((w / 72057594037927936 : Nat) : Int)) := by
  have := shrN (w := w) (k := 56) hw (by decide)
  rw [Nat.shiftRight_eq_div_pow] at this
  exact this
 by_cases h1 : w / 72057594037927936 = 165
 case neg =>
  have c1 : ((((w / 72057594037927936 : Nat) : Int)) = 165) = False := eq_false (by omega)
  have h2 : ¬ unOk w := fun h => h1 h.1
  clear h1
  refine fn rfl ?_
  exact ⟨.inr ⟨h2, rfl⟩, (Grow.refl _).app⟩
 have c1 : ((((w / 72057594037927936 : Nat) : Int)) = 165) = True := eq_true (by omega)
 refine fn rfl ?_
 refine (head_Check_spec (M := unM w) (by unfold unM; omega)).mono ?_
 rintro r _ ⟨h, ⟨g, rfl⟩⟩
 rw [aft_mk]
 rcases h with ⟨h, rfl⟩ | ⟨h, rfl⟩
 ·have h2 : unOk w := ⟨h1, by have := h.2.1; omega, by have := h.2.2; rwa [Int.toNat_natCast] at this⟩
  clear h1
  refine am ?_
  exact ⟨.inl ⟨h2, rfl⟩, _, rfl⟩
 ·have h2 : ¬ unOk w := fun h3 => h ⟨by omega, by have := h3.2.1; omega, by rw [Int.toNat_natCast]; exact h3.2.2⟩
  clear h1
  refine am ?_
  exact ⟨.inr ⟨h2, rfl⟩, _, rfl⟩
theorem head_Is_spec {m : Mem} {N : Int} {M f : Nat} (hM : M < 18446744073709551616) (hf : f < 64) : C S n_head_Is [.agg [.int .i64 N, .int .u64 (M : Nat)], .int .i64 (f : Nat)] m (fun r m' => r = .bool (M.testBit f) ∧ Grow m m') := by
 have s := shrN hM hf
 have a := and1 (a := M >>> f) (by have := Nat.shiftRight_le M f; omega)
 have b := @bit_at M f
 refine fn rfl ?_
 exact (Grow.refl _).app
theorem ref06_Is_spec {m : Mem} {N : Int} {M f : Nat} (hM : M < 18446744073709551616) (hf : f < 64) : C S n_ref06_Is [.agg [.int .i64 N, .int .u64 (M : Nat)], .int .i64 (f : Nat)] m (fun r m' => r = .bool (M.testBit f) ∧ Grow m m') := by
 have s := shrN hM hf
 have w1 := un' (a := f) (by omega)
 have a : (((M >>> f : Nat)) : Int).tmod 2 = ((M >>> f % 2 : Nat) : Int) := tmodN (b := 2)
 have b := @bit_at M f
 refine fn rfl ?_
 exact (Grow.refl _).app
theorem lt_bits {M N : Nat} (hM : M < 18446744073709551616) : M < 2 ^ N ↔ ∀ i, N ≤ i → i < 64 → M.testBit i = false := by
 constructor
 ·intro h i hi _
  exact Nat.testBit_lt_two_pow (Nat.lt_of_lt_of_le h (Nat.pow_le_pow_right (by decide) hi))
 ·intro h
  refine Nat.lt_pow_two_of_testBit M fun i hi => ?_
  by_cases h2 : i < 64
  ·exact h i hi h2
  ·exact Nat.testBit_lt_two_pow (Nat.lt_of_lt_of_le hM (by exact Nat.pow_le_pow_right (n := 2) (by decide) (show 64 ≤ i by omega)))
theorem ref06_Check_spec {m : Mem} {N : Int} {M : Nat} (hM : M < 18446744073709551616) : C S n_ref06_Check [.agg [.int .i64 N, .int .u64 (M : Nat)]] m (fun r m' => okE (shOk N M) r ∧ Grow m m') := by
 have G0 : Grow m (m ++ [Blk.cells true [[V.int .i64 N, V.int .u64 (M : Nat)]]]) := (Grow.refl _).app
 by_cases h0 : N < 0
 ·refine fn rfl ?_
  exact .inr ⟨fun h => by have := h.1; omega, rfl⟩
 by_cases h1 : 48 < N
 ·refine fn rfl ?_
  exact .inr ⟨fun h => by have := h.2.1; omega, rfl⟩
 obtain ⟨a, rfl⟩ : ∃ a : Nat, N = a := ⟨N.toNat, by omega⟩
 have hl := lt_bits (N := a) hM
 refine fn rfl ?_
 let I := fun (j : Nat) (fr : Frame) (M' : Mem) => ∃ i : Nat, a ≤ i ∧ i ≤ 64 ∧ j = 64 - i ∧ Has fr [(1, .ptr m.length 0 0), (3, .int .i64 (i : Nat))] ∧ (∃ g, M' = m ++ .cells true [[V.int .i64 (a : Nat), V.int .u64 (M : Nat)]] :: g) ∧ ∀ k, a ≤ k → k < i → M.testBit k = false
 refine W_loop I ?_ (64 - a) ⟨a, by omega, by omega, rfl, byam, ⟨[], rfl⟩, fun k h1 h2 => by omega⟩
 rintro j fr _ ⟨i, hi, hi2, rfl, F, ⟨g, rfl⟩, hk⟩
 clear G0
 have G : Grow m (m ++ .cells true [[V.int .i64 (a : Nat), V.int .u64 (M : Nat)]] :: g) := ⟨_, rfl⟩
 by_cases h4 : i < 64
 ·have c3 : ((i : Int) < 64) = True := eq_true (by omega)
  refine into ?_
  refine (ref06_Is_spec hM h4).mono ?_
  rintro _ _ ⟨rfl, ⟨g2, rfl⟩⟩
  rw [aft_mk]
  have G2 : Grow m (m ++ .cells true [[V.int .i64 (a : Nat), V.int .u64 (M : Nat)]] :: (g ++ g2)) := ⟨_, rfl⟩
  cases hb : M.testBit i with
  | true =>
   have h5 : ¬ shOk a M := fun h => by have := hl.1 (by simpa using h.2.2) i hi h4; rw [hb] at this; cases this
   clear hl hk
   refine am ?_
   exact .inr ⟨id, rfl⟩
  | false =>
   have w3 : IntKind.i64.wrap ((i : Int) + 1) = ((i + 1 : Nat) : Int) := by rw [wrap_i64] <;> omega
   have hk2 : ∀ k, a ≤ k → k < i + 1 → M.testBit k = false := fun k h1 h => by
    by_cases e : k = i
    ·subst e; exact hb
    ·exact hk k h1 (by omega)
   clear hl hk
   refine am ?_
   exact ⟨_, by omega, i + 1, by omega, by omega, rfl, byam, ⟨_, rfl⟩, hk2⟩
 ·have c3 : ((i : Int) < 64) = False := eq_false (by omega)
  have h5 : M < 2 ^ a := hl.2 fun k h1 h2 => hk k h1 (by omega)
  clear hl hk
  refine into ?_
  exact .inl ⟨⟨by omega, by omega, by simpa using h5⟩, rfl⟩
end Go.AM.G
set_option maxRecDepth 100000
namespace Go.AM.G
open Go Go.AM
theorem ref06_Pack_spec {m : Mem} {N M : Nat} (hM : M < 281474976710656) (hN : N < 256) : C S n_ref06_Pack [.agg [.int .i64 (N : Nat), .int .u64 (M : Nat)]] m (fun r m' => ((shOk N M ∧ r = .tup [.int .u64 (165 * 72057594037927936 + M * 256 + N : Nat), .int .i64 0]) ∨ (¬ shOk N M ∧ r = .tup [.int .u64 0, .int .i64 2])) ∧ Grow m m') := by
 have w1 : IntKind.u64.wrap ((M : Int) * 256) = ((M * 256 : Nat) : Int) := by rw [wrap_u64] <;> omega
 have w2 : IntKind.u64.wrap (11889503016258109440 + ((M * 256 : Nat) : Int)) = ((165 * 72057594037927936 + M * 256 : Nat) : Int) := by rw [wrap_u64] <;> omega
 have w3 := un' (a := N) (by omega)
 have w4 : IntKind.u64.wrap (((165 * 72057594037927936 + M * 256 : Nat) : Int) + (N : Int)) = ((165 * 72057594037927936 + M * 256 + N : Nat) : Int) := by rw [wrap_u64] <;> omega
 refine fn rfl ?_
 refine (ref06_Check_spec (N := N) (by omega)).mono ?_
 rintro r _ ⟨h, ⟨g, rfl⟩⟩
 rw [aft_mk]
 rcases h with ⟨h, rfl⟩ | ⟨h, rfl⟩
 ·have h' : id (shOk N M) := h
  clear h
  refine am ?_
  exact ⟨.inl h', _, rfl⟩
 ·have h' : id (¬ shOk N M) := h
  clear h
  refine am ?_
  exact ⟨.inr h', _, rfl⟩
theorem ref06_Unpack_spec {m : Mem} {w : Nat} (hw : w < 18446744073709551616) : C S n_ref06_Unpack [.int .u64 (w : Nat)] m (fun r m' => UnR w r ∧ Grow m m') := by
 have a1 : ((w : Int)).tmod 256 = ((w % 256 : Nat) : Int) := tmodN (b := 256)
 have a2 := wn (a := w % 256) (by omega)
 have a3 : ((w : Int)).tdiv 256 = ((w / 256 : Nat) : Int) := tdivN (b := 256)
 have a4 := un' (a := w / 256) (by omega)
 have a5 : (((w / 256 : Nat) : Int)).tmod 281474976710656 = ((unM w : Nat) : Int) := tmodN (b := 281474976710656)
 refine fn rfl ?_
 refine (ref06_Pack_spec (N := w % 256) (M := unM w) (by unfold unM; omega) (by omega)).mono ?_
 rintro r _ ⟨h, ⟨g, rfl⟩⟩
 rw [aft_mk]
 rcases h with ⟨h, rfl⟩ | ⟨h, rfl⟩
 ·by_cases h1 : w / 72057594037927936 = 165
  ·have h2 : unOk w := ⟨h1, by have := h.2.1; omega, by have := h.2.2; rwa [Int.toNat_natCast] at this⟩
   have e : 165 * 72057594037927936 + unM w * 256 + w % 256 = w := by unfold unM; omega
   clear h h1
   refine am ?_
   exact ⟨.inl ⟨h2, rfl⟩, _, rfl⟩
  ·have h2 : ¬ unOk w := fun h => h1 h.1
   have e : (((165 * 72057594037927936 + unM w * 256 + w % 256 : Nat) : Int) = (w : Int)) = False := eq_false fun h => h1 (by unfold unM at h; omega)
   clear h h1
   refine am ?_
   exact ⟨.inr ⟨h2, rfl⟩, _, rfl⟩
 ·have h2 : ¬ unOk w := fun h3 => h ⟨by omega, by have := h3.2.1; omega, by rw [Int.toNat_natCast]; exact h3.2.2⟩
  clear h
  refine am ?_
  exact ⟨.inr ⟨h2, rfl⟩, _, rfl⟩
theorem ref01_Check_spec {m : Mem} {v : V} {n : Nat} {w : Nat → Nat} {N : Int} (hv : Rd m v 1 n (u64s w)) (hw : w64 n w) (hn : n < 17592186044417) : C S n_ref01_Check [.agg [.int .i64 N, v]] m (fun r m' => okE (bitsOk N n w) r ∧ Grow m m') := by
 have A := hv.ar
 have G0 : Grow m (m ++ [Blk.cells true [[V.int .i64 N, v]]]) := (Grow.refl _).app
 by_cases h0 : N < 0
 ·refine fn rfl ?_
  exact .inr ⟨fun h => by have := h.1; omega, rfl⟩
 by_cases h1 : 4096 < N
 ·refine fn rfl ?_
  exact .inr ⟨fun h => by have := h.2.1; omega, rfl⟩
 obtain ⟨a, rfl⟩ : ∃ a : Nat, N = a := ⟨N.toNat, by omega⟩
 have w2 : IntKind.i64.wrap ((a : Int) + 63) = ((a + 63 : Nat) : Int) := by rw [wrap_i64] <;> omega
 have w3 := wn (a := (a + 63) / 64) (by omega)
 have q := @q64 (a + 63)
 by_cases h2 : n = (a + 63) / 64
 case neg =>
  have h2' : ((n : Int) = (((a + 63) / 64 : Nat) : Int)) = False := eq_false (by omega)
  refine fn rfl ?_
  exact .inr ⟨fun h => h2 (by have := h.2.2.1; omega), rfl⟩
 have h2' : ((n : Int) = (((a + 63) / 64 : Nat) : Int)) = True := eq_true (by omega)
 have w5 : IntKind.i64.wrap (64 * (n : Int)) = ((64 * n : Nat) : Int) := by rw [wrap_i64] <;> omega
 have hbd : id ((n : Int) = ((a : Int) + 63) / 64) := by show (n : Int) = _; omega
 clear h2
 refine fn rfl ?_
 let I := fun (j : Nat) (fr : Frame) (M' : Mem) => ∃ i : Nat, a ≤ i ∧ (i ≤ 64 * n) ∧ j = 64 * n - i ∧ Has fr [(1, .ptr m.length 0 0), (3, .int .i64 (i : Nat))] ∧ (∃ g, M' = m ++ .cells true [[V.int .i64 (a : Nat), v]] :: g) ∧ ∀ k, a ≤ k → k < i → bit w k = false
 refine W_loop I ?_ (64 * n - a) ⟨a, by omega, by have : (n : Int) = _ := hbd; omega, rfl, byam, ⟨[], rfl⟩, fun k h1 h2 => by omega⟩
 rintro j fr _ ⟨i, hi, hi2, rfl, F, ⟨g, rfl⟩, hk⟩
 clear G0
 have G : Grow m (m ++ .cells true [[V.int .i64 (a : Nat), v]] :: g) := ⟨_, rfl⟩
 have hbd2 : (n : Int) = ((a : Int) + 63) / 64 := hbd
 have hn2 : n < 1000000 := by omega
 clear hbd2
 by_cases h4 : i < 64 * n
 ·have c3 : ((i : Int) < ((64 * n : Nat) : Int)) = True := eq_true (by omega)
  refine into ?_
  refine (ref01_Is_spec hv.app hw h4 hn2).mono ?_
  rintro _ _ ⟨rfl, ⟨g2, rfl⟩⟩
  rw [aft_mk]
  have G2 : Grow m (m ++ .cells true [[V.int .i64 (a : Nat), v]] :: (g ++ g2)) := ⟨_, rfl⟩
  cases hb : bit w i with
  | true =>
   have h5 : ¬ bitsOk a n w := fun h => by have := h.2.2.2 i (by omega) h4; rw [hb] at this; cases this
   clear hk
   refine am ?_
   exact .inr ⟨id, rfl⟩
  | false =>
   have w4 : IntKind.i64.wrap ((i : Int) + 1) = ((i + 1 : Nat) : Int) := by rw [wrap_i64] <;> omega
   have hk2 : ∀ k, a ≤ k → k < i + 1 → bit w k = false := fun k h1 h => by
    by_cases e : k = i
    ·subst e; exact hb
    ·exact hk k h1 (by omega)
   clear hk
   refine am ?_
   exact ⟨_, by omega, i + 1, by omega, by omega, rfl, byam, ⟨_, rfl⟩, hk2⟩
 ·have c3 : ((i : Int) < ((64 * n : Nat) : Int)) = False := eq_false (by omega)
  have h5 : id (bitsOk a n w) := ⟨by omega, by omega, hbd, fun k h1 h2 => hk k (by omega) (by omega)⟩
  clear hk
  refine into ?_
  exact .inl ⟨h5, rfl⟩
theorem Both_spec {m : Mem} {v u : V} {n k : Nat} {w x : Nat → Nat} {N K : Int} (hv : Rd m v 1 n (u64s w)) (hu : Rd m u 1 k (u64s x)) (hw : w64 n w) (hx : w64 k x) (hn : n < 17592186044417) (hk : k < 17592186044417) :
  C S n_bits_Both [.agg [.int .i64 N, v], .agg [.int .i64 K, u]] m (fun r m' => ∃ g, m' = m ++ g ∧ ((bitsOk N n w ∧ bitsOk K k x ∧ N = K ∧ ∃ v', r = .tup [.agg [.int .i64 N, v'], .int .i64 0] ∧ Iu m.length g v' n (fun i => w i &&& x i)) ∨ (¬ (bitsOk N n w ∧ bitsOk K k x ∧ N = K) ∧ r = .tup [.agg [.int .i64 0, .nils], .int .i64 2]))) := by
 have A := hv.ar
 have B := hu.ar
 refine fn rfl ?_
 refine (bits_Check_spec hv.app hw hn).mono ?_
 rintro r _ ⟨h, ⟨g1, rfl⟩⟩
 rw [aft_mk]
 rcases h with ⟨h, rfl⟩ | ⟨h, rfl⟩
 case inr =>
  have h' : ¬ (bitsOk N n w ∧ bitsOk K k x ∧ N = K) := fun e => h e.1
  clear h
  refine am ?_
  exact ⟨_, rfl, .inr trivial⟩
 have h1 : id (bitsOk N n w) := h
 clear h
 refine am ?_
 refine (bits_Check_spec hu.app hx hk).mono ?_
 rintro r _ ⟨h, ⟨g2, rfl⟩⟩
 rw [aft_mk]
 rcases h with ⟨h, rfl⟩ | ⟨h, rfl⟩
 case inr =>
  have h' : ¬ (bitsOk N n w ∧ bitsOk K k x ∧ N = K) := fun e => h e.2.1
  clear h
  refine am ?_
  exact ⟨_, rfl, .inr trivial⟩
 have h2 : id (bitsOk K k x) := h
 clear h
 by_cases hNK : N = K
 case neg =>
  have h' : ¬ (bitsOk N n w ∧ bitsOk K k x ∧ N = K) := fun e => hNK e.2.2
  refine am ?_
  exact ⟨_, rfl, .inr fun e => e.2.2⟩
 subst hNK
 have hnk : n = k := by have a := (show bitsOk N n w from h1).2.2.1; have b := (show bitsOk N k x from h2).2.2.1; omega
 subst hnk
 have c0 : (N = N) = True := eq_true rfl
 refine am ?_
 refine (Own_spec hv.app hn).mono ?_
 rintro _ _ ⟨g3, v', rfl, rfl, h⟩
 have c' := h.cell
 rw [aft_mk]
 refine am ?_
 refine range (α := Unit) n (fun _ => [(3, .ptr (m.length + 1) 0 0), (4, .ptr (m.length + (1 + 1)) 0 0), (28, u), (6, .ptr (m.length + (g1.length + (g2.length + g3.length) + 1 + 1 + 1)) 0 0)])
  (fun j _ M => ∃ g, M = m ++ (.cells true [[.int .i64 N, v]] :: .cells true [[.int .i64 N, u]] :: .cells true [[.int .i64 0, .nils]] :: (g1 ++ (g2 ++ (g ++ [.cells true [[.int .i64 N, v']]])))) ∧ g3.length = g.length ∧ Iu (m.length + (g1.length + g2.length + 1 + 1 + 1)) g v' n (fun i => if i < j then w i &&& x i else w i)) () ⟨g3, by simp, rfl, h.cast⟩ ?_ ?_
 ·rintro j ⟨⟩ fr _ hj F ⟨g, rfl, hl, h⟩
  have hc : Iu (m ++ (.cells true [[.int .i64 N, v]] :: .cells true [[.int .i64 N, u]] :: .cells true [[.int .i64 0, .nils]] :: (g1 ++ g2))).length g v' n (fun i => if i < j then w i &&& x i else w i) := h.cast
  have R := hc.rd (G := [.cells true [[.int .i64 N, v']]])
  obtain ⟨g', l, st, h'⟩ := hc.put (G := [.cells true [[.int .i64 N, v']]]) hj (w j &&& x j)
  simp only [List.append_assoc, List.cons_append] at R st
  have A2 := R.ar
  have e1 : (if j < j then w j &&& x j else w j) = w j := if_neg (Nat.lt_irrefl j)
  have e2 := andN (b := x j) (hw j hj)
  have l2 : id (g.length = g'.length) := l
  clear l
  refine am ?_
  refine ⟨(), byam, g', rfl, l2, ?_⟩
  have e3 : up (fun i => if i < j then w i &&& x i else w i) j (w j &&& x j) = fun i => if i < j + 1 then w i &&& x i else w i := by
   funext i
   by_cases e : i = j
   ·subst e; rw [up_self, if_pos (Nat.lt_succ_self i)]
   ·rw [up_ne e]
    by_cases h3 : i < j
    ·rw [if_pos h3, if_pos (by omega)]
    ·rw [if_neg h3, if_neg (by omega)]
  rw [e3] at h'
  exact h'.cast
 ·rintro ⟨⟩ fr _ F ⟨g, rfl, hl, h⟩
  have c2 := h.cell
  have h3 : Iu (m.length + (g1.length + g2.length + 1 + 1 + 1)) g v' n (fun i => w i &&& x i) := by
   have : (List.range n).map (u64s fun i => if i < n then w i &&& x i else w i) = (List.range n).map (u64s fun i => w i &&& x i) := List.map_congr_left fun i hi => by
    have := List.mem_range.1 hi
    simp only [u64s, if_pos this]
   unfold Iu at h ⊢
   rw [← this]; exact h
  clear h
  refine am ?_
  exact ⟨_, rfl, .inl ⟨h1, h2, v', rfl, .pre [_, _, _] (.pre g1 (.pre g2 (.app h3.cast)))⟩⟩
end Go.AM.G
