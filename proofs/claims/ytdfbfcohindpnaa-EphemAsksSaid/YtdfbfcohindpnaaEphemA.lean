/- Part of the proof: contracts of functions of the given program on an abstract machine. -/
import Derived.Test.YtdfbfcohindpnaaAmAll
import Derived.Test.YtdfbfcohindpnaaAmMem
import Derived.Test.YtdfbfcohindpnaaEphemTab
import Derived.Shelf.Small.Bits
import Derived.Sort.Defs
set_option linter.unusedVariables false
set_option linter.unusedSimpArgs false
set_option maxRecDepth 100000
namespace Go.AM.G
open Go Go.AM
def bitLen (n : Int) : Int := Go.Lib.bitLen n.toNat
def X0 : Told := fun f => if f = n_math_bits_Len then some (fun _ args m => match args with
  | [.int .u64 n] => if 0 ≤ n ∧ n ≤ 18446744073709551615 then some (.int .i64 (bitLen n), m) else none
  | _ => none) else none
theorem Xmono0 : ToldMono X0 := by
  intro f t h c c' _ a m r e
  unfold X0 at h
  split at h
  · cases h; exact e
  · cases h
structure Slot where
  st : Int
  key : Int
  val : Int
  deriving DecidableEq
instance : Inhabited Slot := ⟨⟨0, 0, 0⟩⟩
def enc (s : Slot) : List V := [.int .u8 s.st, .int .u64 s.key, .int .u64 s.val]
abbrev encs (l : List Slot) : List (List V) := l.map enc
def dec (el : List V) : Slot := match el with
  | [.int .u8 a, .int .u64 b, .int .u64 c] => ⟨a, b, c⟩
  | _ => ⟨0, 0, 0⟩
def isEl (el : List V) : Bool := match el with
  | [.int .u8 _, .int .u64 _, .int .u64 _] => true
  | _ => false
theorem isEl_enc (s : Slot) : isEl (enc s) = true := rfl
theorem dec_enc (s : Slot) : dec (enc s) = s := rfl
theorem enc_dec : ∀ {el : List V}, isEl el = true → enc (dec el) = el := by
  intro el h
  unfold isEl at h
  split at h
  · rfl
  · cases h
def ltKey (a b : Slot) : Bool := decide (a.key < b.key)
/-- the library's sort of slots by their keys. -/
def srtA (d : Array Slot) : Array Slot := Go.Sort.pdq ltKey d 0 d.size (Lib.bitLen d.size) true true
def srtL (l : List Slot) : List Slot := (srtA l.toArray).toList
def tSort : List V → Mem → Option (V × Mem)
  | [.slice b 0 len _ _ 3, .fn g [] []], m => match m[b]? with
    | some (.cells true els) => if g = n_ephem_All_2 ∧ len ≤ els.length ∧ len < 4611686018427387904 ∧ (els.take len).all isEl = true then some (.tup [], m.set b (.cells true (encs (srtL ((els.take len).map dec)) ++ els.drop len))) else none
    | _ => none
  | [.nils, .fn g [] []], m => if g = n_ephem_All_2 then some (.tup [], m) else none
  | _, _ => none
def X : Told := fun f => if f = n_law10_lives then some (fun _ args m => match args with | [] => some (.bool true, m) | _ => none) else if f = n_slices_SortFunc_EphSlot then some (fun _ => tSort) else X0 f
theorem Xmono : ToldMono X := by
  intro f t h c c' hc a m r e
  unfold X at h
  split at h
  · cases h; exact e
  split at h
  · cases h; exact e
  · exact Xmono0 f t h c c' hc a m r e
theorem X_bits : X n_math_bits_Len = X0 n_math_bits_Len := rfl
def S : Sys := ⟨fun f => tab.lookup f, X, Xmono⟩



def Pow (n : Int) : Prop := n = 8 ∨ n = 16 ∨ n = 32 ∨ n = 64
instance (n : Int) : Decidable (Pow n) := inferInstanceAs (Decidable (_ ∨ _))
theorem pow_and (n : Int) (h : 8 ≤ n) (h' : n ≤ 64) : (IntKind.i64.wrap ↑(BitVec.ofInt IntKind.i64.bits n &&& BitVec.ofInt IntKind.i64.bits (IntKind.i64.wrap (n - 1))).toNat = 0) ↔ Pow n := by
  obtain ⟨k, rfl⟩ : ∃ k : Fin 57, n = 8 + (k : Nat) := ⟨⟨(n - 8).toNat, by omega⟩, by simp; omega⟩
  revert k
  unfold Pow
  decide +kernel
theorem sized_spec (n : Int) (m : Mem) : C S n_ephem_sized [.int .i64 n] m (fun v m' => v = .bool (decide (Pow n)) ∧ m = m') := by
  refine C_body rfl rfl rfl ?_
  unfold ephem_sized
  simp (maxDischargeDepth := 30) only [amL, args0, Nat.reduceEqDiff, reduceCtorEq, ↓reduceIte, Nat.reduceAdd, resultsA, results1, Int.reduceNeg, splice, Nat.reduceLeDiff, part, fillA, fillE, Nat.reduceLT]
  first | (refine O_split (by simp only [put_apply, Nat.reduceEqDiff, ↓reduceIte, reduceCtorEq]; rfl) (fun h => ?_) (fun h => ?_) <;> simp only [decide_eq_true_eq, decide_eq_false_iff_not, Decidable.not_not, Bool.and_eq_true, Bool.not_eq_true', Bool.not_eq_false'] at h) | (refine W_split (by simp only [get_t, put_apply, Nat.reduceEqDiff, ↓reduceIte, reduceCtorEq]; rfl) (fun h => ?_) (fun h => ?_) <;> simp only [decide_eq_true_eq, decide_eq_false_iff_not, Decidable.not_not, Bool.and_eq_true, Bool.not_eq_true', Bool.not_eq_false'] at h)
  · simp (maxDischargeDepth := 30) only [h, amL, args0, Nat.reduceEqDiff, reduceCtorEq, ↓reduceIte, Nat.reduceAdd, resultsA, results1, Int.reduceNeg, splice, Nat.reduceLeDiff, part, fillA, fillE, Nat.reduceLT]
    first | (refine O_split (by simp only [put_apply, Nat.reduceEqDiff, ↓reduceIte, reduceCtorEq]; rfl) (fun h' => ?_) (fun h' => ?_) <;> simp only [decide_eq_true_eq, decide_eq_false_iff_not, Decidable.not_not, Bool.and_eq_true, Bool.not_eq_true', Bool.not_eq_false'] at h') | (refine W_split (by simp only [get_t, put_apply, Nat.reduceEqDiff, ↓reduceIte, reduceCtorEq]; rfl) (fun h' => ?_) (fun h' => ?_) <;> simp only [decide_eq_true_eq, decide_eq_false_iff_not, Decidable.not_not, Bool.and_eq_true, Bool.not_eq_true', Bool.not_eq_false'] at h')
    · simp (maxDischargeDepth := 30) only [h', pow_and n h h', amL, args0, Nat.reduceEqDiff, reduceCtorEq, ↓reduceIte, Nat.reduceAdd, resultsA, results1, Int.reduceNeg, splice, Nat.reduceLeDiff, part, fillA, fillE, Nat.reduceLT]
    · have : ¬ Pow n := by unfold Pow; omega
      simp (maxDischargeDepth := 30) only [h', this, amL, args0, Nat.reduceEqDiff, reduceCtorEq, ↓reduceIte, Nat.reduceAdd, resultsA, results1, Int.reduceNeg, splice, Nat.reduceLeDiff, part, fillA, fillE, Nat.reduceLT]
  · have : ¬ Pow n := by unfold Pow; omega
    simp (maxDischargeDepth := 30) only [h, this, amL, args0, Nat.reduceEqDiff, reduceCtorEq, ↓reduceIte, Nat.reduceAdd, resultsA, results1, Int.reduceNeg, splice, Nat.reduceLeDiff, part, fillA, fillE, Nat.reduceLT]
def homeI (key n : Int) : Int := IntKind.i64.wrap ((IntKind.u64.wrap (key * 11400714819323198485)).fdiv (2 ^ (65 - bitLen n).toNat))
theorem home_spec (key n : Int) (m : Mem) (hn : Pow n) : C S n_ephem_home [.int .u64 key, .int .i64 n] m (fun v m' => v = .int .i64 (homeI key n) ∧ m = m') := by
  refine C_body rfl rfl rfl ?_
  unfold ephem_home
  simp (maxDischargeDepth := 30) only [amL, args0, Nat.reduceEqDiff, reduceCtorEq, ↓reduceIte, Nat.reduceAdd, resultsA, results1, Int.reduceNeg, splice, Nat.reduceLeDiff, part, fillA, fillE, Nat.reduceLT]
  have hcall : S.call 1 n_math_bits_Len [.int .u64 (IntKind.u64.wrap n)] m = some (.int .i64 (bitLen (IntKind.u64.wrap n)), m) := by
    rcases hn with rfl | rfl | rfl | rfl <;> rfl
  refine ⟨1, _, _, hcall, ?_⟩
  simp (maxDischargeDepth := 30) only [aft_mk, amL, args0, Nat.reduceEqDiff, reduceCtorEq, ↓reduceIte, Nat.reduceAdd, resultsA, results1, Int.reduceNeg, splice, Nat.reduceLeDiff, part, fillA, fillE, Nat.reduceLT]
  have : shI .shr .u64 (IntKind.u64.wrap (key * 11400714819323198485)) (IntKind.i64.wrap (65 - bitLen (IntKind.u64.wrap n))) = some (.int .u64 ((IntKind.u64.wrap (key * 11400714819323198485)).fdiv (2 ^ (65 - bitLen n).toNat))) := by
    rcases hn with rfl | rfl | rfl | rfl <;> rfl
  simp (maxDischargeDepth := 30) only [this, amL, args0, Nat.reduceEqDiff, reduceCtorEq, ↓reduceIte, Nat.reduceAdd, resultsA, results1, Int.reduceNeg, splice, Nat.reduceLeDiff, part, fillA, fillE, Nat.reduceLT]
  rfl
def cnt (st : Int) (l : List Slot) : Nat := l.countP (fun s => s.st = st)
theorem cnt_succ {st : Int} {l : List Slot} {i : Nat} {s : Slot} (h : l[i]? = some s) : cnt st (l.take (i + 1)) = cnt st (l.take i) + (if s.st = st then 1 else 0) := by
  obtain ⟨hi, e⟩ := List.getElem?_eq_some_iff.1 h
  rw [List.take_succ_eq_append_getElem hi, e]
  simp [cnt, List.countP_append, List.countP_cons]
theorem cnt_le (st : Int) (l : List Slot) : cnt st l ≤ l.length := List.countP_le_length
theorem encs_get {l : List Slot} {i : Nat} {s : Slot} (h : l[i]? = some s) : (encs l)[i]? = some (enc s) := by simp [h]
theorem many_spec {m : Mem} {p v : V} {l : List Slot} (st : Int) (hp : loadV m none p = some v) (hpp : asPtr 0 p = some p) (hv : Sl m v 3 (encs l)) (hl : l.length < 2 ^ 62) : C S n_ephem_table_many [p, .int .u8 st] m (fun v m' => v = .int .i64 (cnt st l) ∧ Grow m m') := by
  refine C_body rfl rfl rfl ?_
  unfold ephem_table_many
  have hlen : (encs l).length = l.length := by simp
  simp (maxDischargeDepth := 30) only [hp, hpp, hv.len, amL, args0, Nat.reduceEqDiff, reduceCtorEq, ↓reduceIte, Nat.reduceAdd, resultsA, results1, Int.reduceNeg, splice, Nat.reduceLeDiff, part, fillA, fillE, Nat.reduceLT]
  let I := fun (k : Nat) (fr : Frame) (M : Mem) => ∃ i : Nat, i ≤ l.length ∧ k = l.length - i ∧ fr 1 = .int .u8 st ∧ fr 12 = v ∧ fr 13 = .int .i64 l.length ∧ fr 14 = .int .i64 i ∧ fr 5 = .int .i64 (cnt st (l.take i)) ∧ Grow m M
  refine W_loop I ?_ l.length ?_
  · rintro k fr M ⟨i, hi, rfl, h1, h12, h13, h14, h5, hg⟩
    unfold ephem_table_many_l0
    simp (maxDischargeDepth := 30) only [h1, h12, h13, h14, h5, amL, args0, Nat.reduceEqDiff, reduceCtorEq, ↓reduceIte, Nat.reduceAdd, resultsA, results1, Int.reduceNeg, splice, Nat.reduceLeDiff, part, fillA, fillE, Nat.reduceLT]
    first | (refine O_split (by simp only [put_apply, Nat.reduceEqDiff, ↓reduceIte, reduceCtorEq]; rfl) (fun h => ?_) (fun h => ?_) <;> simp only [decide_eq_true_eq, decide_eq_false_iff_not, Decidable.not_not, Bool.and_eq_true, Bool.not_eq_true', Bool.not_eq_false'] at h) | (refine W_split (by simp only [get_t, put_apply, Nat.reduceEqDiff, ↓reduceIte, reduceCtorEq]; rfl) (fun h => ?_) (fun h => ?_) <;> simp only [decide_eq_true_eq, decide_eq_false_iff_not, Decidable.not_not, Bool.and_eq_true, Bool.not_eq_true', Bool.not_eq_false'] at h)
    · have hil : i < l.length := by omega
      obtain ⟨s, hs⟩ : ∃ s, l[i]? = some s := ⟨_, List.getElem?_eq_getElem hil⟩
      have hcs := cnt_succ (st := st) hs
      have hcl := cnt_le st (l.take i)
      have hsl := hv.grow hg
      rw [List.length_take] at hcl
      have w1 : IntKind.i64.wrap ((i : Int) + 1) = ((i + 1 : Nat) : Int) := by rw [wrap_i64] <;> omega
      have w2 : IntKind.i64.wrap ((cnt st (l.take i) : Int) + 1) = ((cnt st (l.take i) + 1 : Nat) : Int) := by rw [wrap_i64] <;> omega
      simp (maxDischargeDepth := 30) only [h, h1, h12, h13, h14, h5, hsl.index (ki := .i64) (n := i) (by omega) (by omega), hsl.load (encs_get hs), enc, amL, args0, Nat.reduceEqDiff, reduceCtorEq, ↓reduceIte, Nat.reduceAdd, resultsA, results1, Int.reduceNeg, splice, Nat.reduceLeDiff, part, fillA, fillE, Nat.reduceLT]
      first | (refine O_split (by simp only [put_apply, Nat.reduceEqDiff, ↓reduceIte, reduceCtorEq]; rfl) (fun h' => ?_) (fun h' => ?_) <;> simp only [decide_eq_true_eq, decide_eq_false_iff_not, Decidable.not_not, Bool.and_eq_true, Bool.not_eq_true', Bool.not_eq_false'] at h') | (refine W_split (by simp only [get_t, put_apply, Nat.reduceEqDiff, ↓reduceIte, reduceCtorEq]; rfl) (fun h' => ?_) (fun h' => ?_) <;> simp only [decide_eq_true_eq, decide_eq_false_iff_not, Decidable.not_not, Bool.and_eq_true, Bool.not_eq_true', Bool.not_eq_false'] at h')
      · simp (maxDischargeDepth := 30) only [h1, h12, h13, h14, h5, w1, w2, amL, args0, Nat.reduceEqDiff, reduceCtorEq, ↓reduceIte, Nat.reduceAdd, resultsA, results1, Int.reduceNeg, splice, Nat.reduceLeDiff, part, fillA, fillE, Nat.reduceLT]
        refine ⟨_, ?_, i + 1, by omega, rfl, ?_, ?_, ?_, ?_, ?_, hg.app⟩
        · omega
        all_goals simp (maxDischargeDepth := 30) only [h1, h12, h13, h14, h5, amL, args0, Nat.reduceEqDiff, reduceCtorEq, ↓reduceIte, Nat.reduceAdd, resultsA, results1, Int.reduceNeg, splice, Nat.reduceLeDiff, part, fillA, fillE, Nat.reduceLT]
        rw [hcs, if_pos h']
      · simp (maxDischargeDepth := 30) only [h1, h12, h13, h14, h5, w1, w2, amL, args0, Nat.reduceEqDiff, reduceCtorEq, ↓reduceIte, Nat.reduceAdd, resultsA, results1, Int.reduceNeg, splice, Nat.reduceLeDiff, part, fillA, fillE, Nat.reduceLT]
        refine ⟨_, ?_, i + 1, by omega, rfl, ?_, ?_, ?_, ?_, ?_, hg.app⟩
        · omega
        all_goals simp (maxDischargeDepth := 30) only [h1, h12, h13, h14, h5, amL, args0, Nat.reduceEqDiff, reduceCtorEq, ↓reduceIte, Nat.reduceAdd, resultsA, results1, Int.reduceNeg, splice, Nat.reduceLeDiff, part, fillA, fillE, Nat.reduceLT]
        rw [hcs, if_neg h']
        rfl
    · simp (maxDischargeDepth := 30) only [h, h1, h12, h13, h14, h5, amL, args0, Nat.reduceEqDiff, reduceCtorEq, ↓reduceIte, Nat.reduceAdd, resultsA, results1, Int.reduceNeg, splice, Nat.reduceLeDiff, part, fillA, fillE, Nat.reduceLT]
      have : l.take i = l := List.take_of_length_le (by omega)
      rw [this]
      exact ⟨rfl, hg⟩
  · exact ⟨0, by omega, rfl, by simp (maxDischargeDepth := 30) only [amL, args0, Nat.reduceEqDiff, reduceCtorEq, ↓reduceIte, Nat.reduceAdd, resultsA, results1, Int.reduceNeg, splice, Nat.reduceLeDiff, part, fillA, fillE, Nat.reduceLT], by simp (maxDischargeDepth := 30) only [amL, args0, Nat.reduceEqDiff, reduceCtorEq, ↓reduceIte, Nat.reduceAdd, resultsA, results1, Int.reduceNeg, splice, Nat.reduceLeDiff, part, fillA, fillE, Nat.reduceLT], by simp (maxDischargeDepth := 30) only [hlen, amL, args0, Nat.reduceEqDiff, reduceCtorEq, ↓reduceIte, Nat.reduceAdd, resultsA, results1, Int.reduceNeg, splice, Nat.reduceLeDiff, part, fillA, fillE, Nat.reduceLT], by simp (maxDischargeDepth := 30) only [amL, args0, Nat.reduceEqDiff, reduceCtorEq, ↓reduceIte, Nat.reduceAdd, resultsA, results1, Int.reduceNeg, splice, Nat.reduceLeDiff, part, fillA, fillE, Nat.reduceLT]; rfl, by simp (maxDischargeDepth := 30) only [amL, args0, Nat.reduceEqDiff, reduceCtorEq, ↓reduceIte, Nat.reduceAdd, resultsA, results1, Int.reduceNeg, splice, Nat.reduceLeDiff, part, fillA, fillE, Nat.reduceLT]; rfl, Grow.refl _⟩
end Go.AM.G
