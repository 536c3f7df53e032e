/- The system of a seat that reaches the heap layer: its code, and what is told. -/
import Derived.Test.YtkimcedmfnoeoaaGreatDoorAmQ
import Derived.Test.YtkimcedmfnoeoaaGreatDoorEpA
import Derived.Lib.BitFns
import Derived.Lib.ItoaNum
import Derived.Lib.TrailingZeros
set_option linter.unusedVariables false
set_option linter.unusedSimpArgs false
set_option maxRecDepth 100000
namespace Go.AM.G
open Go Go.AM
def tLen (args : List V) (m : Mem) : Option (V × Mem) :=
 match args with
 | [.int .u64 n] => if 0 ≤ n ∧ n ≤ 18446744073709551615 then some (.int .i64 ((Go.Lib.bitLen n.toNat : Nat) : Int), m) else none
 | _ => none
def isO (el : List V) : Bool :=
 match el with
 | [.int .i64 _, .int .i64 _, .int .u64 _, .int .i64 _, .int .u64 _, .bool _] => true
 | _ => false
def curV : List (List V) → List (List V)
 | [] => []
 | [_, _, a, _, _, .bool true] :: r => [a] :: curV r
 | _ :: r => curV r
def isHp (args : List V) : Bool :=
 match args with
 | [.agg [a, b, c, d]] => a.isCell && b.isCell && c.isCell && d.isCell
 | _ => false
def tObj (call : Nat → List V → Mem → Option (V × Mem)) (args : List V) (m : Mem) : Option (V × Mem) :=
 if isHp args = true then match call n_heap_open args m with
 | some (.tup [.nilp, .int .i64 e], m1) => if e = 0 then none else some (.tup [.nils, .int .i64 e], m1)
 | some (.tup [.ptr P 0 0, .int .i64 0], m1) => match m1[P]? with
  | some (.cells _ [[_, _, _, _, ov]]) => match elems m1 ov with
   | some els => if els.all isO = true ∧ els.length < 1000000 ∧ zOk ov 6 = true then
     (match curV els with
     | [] => some (.tup [.nils, .int .i64 0], m1)
     | a :: r => some (.tup [.slice m1.length 0 (r.length + 1) (r.length + 1) false 1, .int .i64 0], m1 ++ [.cells true (a :: r)])) else none
   | none => none
  | _ => none
 | _ => none else none
def tTz (args : List V) (m : Mem) : Option (V × Mem) :=
 match args with
 | [.int .u64 n] => if 0 ≤ n ∧ n ≤ 18446744073709551615 then some (.int .i64 ((Go.Lib.ctz 64 n.toNat : Nat) : Int), m) else none
 | _ => none
def X0 : Told := fun f => if f = n_math_bits_Len ∨ f = n_math_bits_Len64 then some (fun _ => tLen) else if f = n_slices_SortFunc_EphSlot then some (fun _ => E.tSort) else if f = n_heap_Objects then some tObj else if f = n_math_bits_TrailingZeros64 then some (fun _ => tTz) else none
theorem tObj_mono {c c' : Nat → List V → Mem → Option (V × Mem)} (hc : ∀ f a m r, c f a m = some r → c' f a m = some r) {a : List V} {m : Mem} {r : V × Mem} (e : tObj c a m = some r) : tObj c' a m = some r := by
 unfold tObj at e ⊢
 split at e
 case isFalse => cases e
 rename_i hi
 rw [if_pos hi]
 cases h : c n_heap_open a m with
 | none => rw [h] at e; cases e
 | some y => rw [h] at e; rw [hc _ _ _ _ h]; exact e
theorem Xmono0 : ToldMono X0 := fun f t h c c' hc a m r e => by
 unfold X0 at h
 split at h
 ·cases h; exact e
 split at h
 ·cases h; exact e
 split at h
 ·cases h; exact tObj_mono hc e
 split at h
 ·cases h; exact e
 ·cases h
def X : Told := fun f => if f = n_law11_lives then some (fun _ args m => match args with | [] => some (.bool true, m) | _ => none) else X0 f
theorem Xmono : ToldMono X := by
 intro f t h c c' hc a m r e
 unfold X at h
 split at h
 ·cases h; exact e
 ·exact Xmono0 f t h c c' hc a m r e
def S : Sys := ⟨fun f => tab.lookup f, X, Xmono⟩
theorem lives_spec {m : Mem} : C S n_law11_lives [] m (fun r m' => r = .bool true ∧ m = m') := ⟨1, _, _, rfl, rfl, rfl⟩
theorem Len_spec {m : Mem} {n : Nat} (hn : n < 18446744073709551616) : C S n_math_bits_Len [.int .u64 (n : Nat)] m (fun r m' => r = .int .i64 ((Go.Lib.bitLen n : Nat) : Int) ∧ m' = m) := by
 refine ⟨1, _, _, ?_, rfl, rfl⟩
 show tLen [.int .u64 (n : Int)] m = _
 simp only [tLen]
 rw [if_pos ⟨by omega, by omega⟩]; simp
theorem Len64_spec {m : Mem} {n : Nat} (hn : n < 18446744073709551616) : C S n_math_bits_Len64 [.int .u64 (n : Nat)] m (fun r m' => r = .int .i64 ((Go.Lib.bitLen n : Nat) : Int) ∧ m' = m) := by
 refine ⟨1, _, _, ?_, rfl, rfl⟩
 show tLen [.int .u64 (n : Int)] m = _
 simp only [tLen]
 rw [if_pos ⟨by omega, by omega⟩]; simp
end Go.AM.G
