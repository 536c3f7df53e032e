/- Slots of a table; the library's sort of them, as it is told. -/
import Derived.Test.YtkimcedmfnoeoaaGreatDoorAmAll
import Derived.Test.YtkimcedmfnoeoaaGreatDoorAmMem
import Derived.Test.YtkimcedmfnoeoaaGreatDoorHpTab
import Derived.Shelf.Small.Bits
import Derived.Sort.Defs
set_option linter.unusedVariables false
set_option linter.unusedSimpArgs false
set_option maxRecDepth 100000
namespace Go.AM.G.E
open Go Go.AM Go.AM.G
def bitLen (n : Int) : Int := ((Go.Lib.bitLen n.toNat : Nat) : Int)
structure Slot where
 st : Int
 key : Int
 val : Int
 deriving DecidableEq
instance : Inhabited Slot := ⟨⟨0, 0, 0⟩⟩
def enc (s : Slot) : List V := [.int .u8 s.st, .int .u64 s.key, .int .u64 s.val]
abbrev encs (l : List Slot) : List (List V) := l.map enc
def dec (el : List V) : Slot := match el with
 | [.int .u8 a, .int .u64 b, .int .u64 c] => ⟨a, b, c⟩
 | _ => ⟨0, 0, 0⟩
def isEl (el : List V) : Bool := match el with
 | [.int .u8 _, .int .u64 _, .int .u64 _] => true
 | _ => false
theorem dec_enc (s : Slot) : dec (enc s) = s := rfl
theorem enc_dec : ∀ {el : List V}, isEl el = true → enc (dec el) = el := by
 intro el h
 unfold isEl at h
 split at h
 ·rfl
 ·cases h
def ltKey (a b : Slot) : Bool := decide (a.key < b.key)
def srtA (d : Array Slot) : Array Slot := Go.Sort.pdq ltKey d 0 d.size (Lib.bitLen d.size) true true
def srtL (l : List Slot) : List Slot := (srtA l.toArray).toList
def tSort : List V → Mem → Option (V × Mem)
 | [.slice b 0 len _ _ 3, .fn g [] []], m => match m[b]? with
  | some (.cells true els) => if g = n_ephem_All_2 ∧ len ≤ els.length ∧ len < 4611686018427387904 ∧ (els.take len).all isEl = true then some (.tup [], m.set b (.cells true (encs (srtL ((els.take len).map dec)) ++ els.drop len))) else none
  | _ => none
 | [.nils, .fn g [] []], m => if g = n_ephem_All_2 then some (.tup [], m) else none
 | _, _ => none
end Go.AM.G.E
