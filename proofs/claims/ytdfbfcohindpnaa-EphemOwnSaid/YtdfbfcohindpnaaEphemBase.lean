/- Part of the proof: contracts of functions of the given program on an abstract machine. -/
import Derived.Test.YtdfbfcohindpnaaRows
import Derived.Test.YtdfbfcohindpnaaEphemI
import Derived.Test.YtdfbfcohindpnaaAmRead
import Derived.Shelf.Small.Bits
import Derived.WalkKit
import Derived.ProofKit
import Derived.OpenShut
import Derived.ChangeOld
import Derived.Below
import Derived.SizedLaws
import Derived.Deep.Strs
set_option linter.unusedVariables false
set_option linter.unusedSimpArgs false
namespace Go.Proofs.Ytdfbfcohindpnaa.EphemBase
open Go Go.AM Go.AM.G Go.Shelf Go.RowKit
def ren125 : Ren := { f := fun x => match x with | 125 => 44 | 128 => 54 | 129 => 55 | n => n, t := fun x => match x with | 46 => 77 | 51 => 87 | 53 => 25 | n => n, g := fun n => n }
theorem lays125 : Lays.n125 Try.prog ren125 where
  mixed := rfl
  f125 := Try.func44.trans (congrArg some (by kernel_rfl))
  f128 := Try.func54.trans (congrArg some (by kernel_rfl))
  f129 := Try.func55.trans (congrArg some (by kernel_rfl))
  t3 := Try.underlying3
  a3 := Try.isAgg3
  z3 := Try.sizeOf3
  v3 := Try.zeroValue3
  t4 := Try.underlying4
  a4 := Try.isAgg4
  z4 := Try.sizeOf4
  v4 := Try.zeroValue4
  t5 := Try.underlying5
  a5 := Try.isAgg5
  z5 := Try.sizeOf5
  v5 := Try.zeroValue5
  t9 := Try.underlying9
  a9 := Try.isAgg9
  z9 := Try.sizeOf9
  v9 := Try.zeroValue9
  t46 := Try.underlying77
  a46 := Try.isAgg77
  z46 := Try.sizeOf77
  v46 := Try.zeroValue77
  t51 := Try.underlying87
  a51 := Try.isAgg87
  z51 := Try.sizeOf87
  v51 := Try.zeroValue87
  t53 := Try.underlying25
  a53 := Try.isAgg25
  z53 := Try.sizeOf25
  v53 := Try.zeroValue25
theorem bits_Len (x : Int) (w : World) (h0 : 0 ≤ x) (h1 : x ≤ 18446744073709551615) :
    Calls Try.prog 44 #[.int .u64 x] w fun e w' => e = .returned (.int .i64 (Lib.bitLen x.toNat)) ∧ w' = w := Any.bits_Len lays125 x w h0 h1
theorem toldOk : ToldOk Try.prog X := by
  intro f t h call _ args m v m' e
  unfold X at h
  split at h
  · rename_i hf
    cases h
    dsimp only at e
    split at e
    · rename_i n
      split at e
      · rename_i hb
        cases e
        have hf' : f = 44 := hf
        subst hf'
        refine ⟨⟨_, Try.func44, rfl, by decide⟩, fun φ w cargs hst hr => ?_⟩
        simp only [Rs, R] at hr
        obtain ⟨c, r, rfl, rfl, rfl⟩ := hr
        refine (bits_Len n w hb.1 hb.2).mono ?_
        rintro e w' ⟨rfl, rfl⟩
        exact ⟨φ, _, rfl, Stp.refl hst, by simp only [R]; rfl⟩
      · cases e
    · cases e
  · cases h
theorem sound (n : Nat) : SoundCall Try.prog (callN S.F S.X n) := callN_ok (Checked.mixed Try.checked) tableOk toldOk Xfr n
/-- a law that was shown on the abstract machine, at memory that is read alone. -/
theorem law_calls {f : Nat} {args : List V} {m : Mem} (h : C S f args m (fun r m' => r = .bool true ∧ Grow m m')) {φ : Phi} {W : World} {cargs : List Value} (hst : St φ m W) (hr : Rs φ args cargs) (hno : ∀ (b : Nat) (els : List (List V)), m[b]? ≠ some (Blk.cells true els)) :
    Calls Try.prog f cargs.toArray W fun e W' => e = .returned (.bool true) ∧ Below W.heap.size W W' := by
  obtain ⟨n, v, m', h1, rfl, _⟩ := h
  refine ((sound n f args m _ m' h1).2 φ W cargs hst hr).mono ?_
  rintro e W' ⟨φ', cv, rfl, hs, hv⟩
  simp only [R] at hv
  subst hv
  refine ⟨rfl, hs.os, hs.tape, hs.output, hs.size, fun B hB => (hs.frame B hB ?_).1⟩
  rintro ⟨b, els, p, h1, _, _⟩
  exact hno b els h1
open Go.ChangeShapes Go.WideShapes Go.ChangeAt Go.RowKit
instance : Inhabited Slot := ⟨⟨0, 0, 0⟩⟩
/-- a table that was handed in. -/
theorem read_ephem {H : Type} {enc : TypeId × Value → H} {W : World} {base : Nat} {v : Value} {d : DataW H} {ps : List MemPlace} {ts : List TypeId} {ds : List (DataW H)} {j : Nat} (hv : Value.okWide Try.prog W .any base 24 v) (h : DataW.Trod enc Try.prog W 0 (fun _ => true) true 24 v d ps) (hsz : (DataW.weightsEach Try.prog ts ds).all (· ≤ reachBytes) = true) (ht : ts[j]? = some 24) (hd : ds[j]? = some d) :
    ∃ (u : V) (l : List Slot) (φ : Phi) (m : Mem), m.length = 1 ∧ St φ m W ∧ Rs φ [.agg [u]] [v] ∧ Sl m u 3 (encs l) ∧ l.length < 5864062014806 ∧ ∀ (b : Nat) (els : List (List V)), m[b]? ≠ some (Blk.cells true els) := by
  simp only [Value.okWide, Try.underlying24] at hv
  obtain ⟨cs, rfl, hsz1, ts', hts, _, hcell⟩ := hv
  have hts' : ts' = [22] := by
    have : Try.prog.cellTypes Try.prog.depth 24 = some [22] := by kernel_rfl
    rw [this] at hts
    cases hts
    rfl
  subst hts'
  have h24 : Try.prog.cellsOf 24 = 1 := by kernel_rfl
  have h22 : Try.prog.cellsOf 22 = 1 := by kernel_rfl
  have h21 : Try.prog.cellsOf 54 = 3 := by kernel_rfl
  have hb21 : Try.prog.bytesOf 54 = 24 := by kernel_rfl
  have h52 : Try.prog.cellsOf 52 = 1 := by kernel_rfl
  have h25 : Try.prog.cellsOf 25 = 1 := by kernel_rfl
  rw [h24] at hsz1
  obtain ⟨c0, rfl⟩ : ∃ c0, cs = #[c0] := by
    obtain ⟨l⟩ := cs
    match l, hsz1 with
    | [c], _ => exact ⟨c, rfl⟩
  obtain ⟨t0, ht0, hok⟩ := hcell 0 c0 rfl
  simp only [List.length_cons, List.length_nil, Nat.zero_add, Nat.zero_mod, List.getElem?_cons_zero, Option.some.injEq] at ht0
  subst ht0
  obtain ⟨fuel, hf⟩ := h
  obtain ⟨y0, n, hx, _, g0⟩ := trod_struct1 Try.underlying24 hf
  simp only [h22] at g0
  have g0' : DataW.trod enc Try.prog W 0 (fun _ => true) true n 22 [c0] = some y0 := g0
  rcases Deep.open_slice Try.underlying22 g0' with ⟨hc, hy⟩ | ⟨a, len, cap, mm, n', D, Pl, hc, _, hl, hmx, hmm, hy, hel⟩
  · simp only [List.cons.injEq, and_true] at hc
    subst hc
    refine ⟨.nils, [], fun _ => none, [.dead], rfl, ⟨fun _ _ => rfl, ?_, ?_⟩, ?_, ⟨rfl, rfl⟩, by decide, ?_⟩
    · intro b own els hb
      cases b <;> simp at hb
    · intro b els b' own' els' p p' hb
      cases b <;> simp at hb
    · simp [Rs, R]
    · intro b els hb
      cases b <;> simp at hb
  · simp only [List.cons.injEq, and_true] at hc
    subst hc
    simp only [if_true] at hmm
    subst hmm
    have hhas : W.has Try.prog .any base a 54 mm := by
      simp only [Cell.okWide, Try.underlying22, Cell.ok] at hok
      exact hok.2.2
    obtain ⟨hs, c, t, fr, hc, hoff⟩ := has_cells hhas
    obtain ⟨q, hq⟩ := Deep.choose_lt (α := Slot) (n := mm) (p := fun i s => W.cells? 0 (a.add (i * 3)) 3 = some [.int .u8 s.st, .int .u64 s.key, .int .u64 s.val]) (fun i hi => by
      obtain ⟨cs', e1, e2⟩ := hel i hi
      rw [h21] at e1
      obtain ⟨z0, z1, z2, k, _, hlen, f0, f1, f2⟩ := Deep.trod_struct3 Try.underlying54 e2
      simp only [h52, h25] at f0 f1 f2
      obtain ⟨x0, e0, _, _⟩ := DataW.trod_int Try.underlying52 f0
      obtain ⟨x1, e3, _, _⟩ := DataW.trod_int Try.underlying25 f1
      obtain ⟨x2, e4, _, _⟩ := DataW.trod_int Try.underlying25 f2
      rw [h21] at hlen
      refine ⟨⟨x0, x1, x2⟩, ?_⟩
      rw [e1]
      match cs', hlen with
      | [b0, b1, b2], _ =>
        simp at e0 e3 e4
        subst e0 e3 e4
        rfl)
    obtain ⟨φ, s1, s2, s3⟩ := read_slice (t := t) (fr := fr) (E := fun i => Go.AM.G.enc (q i)) (z := 3) (by omega) hs hc hoff hl hmx (fun i _ => ⟨rfl, by simp [Go.AM.G.enc, V.isCell]⟩) (fun φ i hi => ⟨_, hq i hi, by simp [Go.AM.G.enc, Rs, R]⟩)
    refine ⟨_, (List.range len).map q, φ, _, rfl, s1, ?_, ⟨by rw [s3]; simp [encs], rfl⟩, ?_, ?_⟩
    · refine Rs.one ?_
      unfold R
      exact ⟨[_], rfl, Rs.one s2⟩
    · have hd' : ds[j]? = some (.agg [y0.1]) := by rw [hd]; simp only [Prod.mk.injEq] at hx; rw [hx.1]
      have hmem := DataW.weights_mem_each (P := Try.prog) ht hd' ((len + (mm - len)) * 24) (by
        simp [DataW.weights, Try.underlying24, DataW.weightsEach, hy, Try.underlying22, hb21])
      have h1 : (len + (mm - len)) * 24 ≤ 0x7ffffffff000 := of_decide_eq_true (List.all_eq_true.1 hsz _ hmem)
      simp only [List.length_map, List.length_range]
      omega
    · intro b els hb
      cases b <;> simp at hb
end Go.Proofs.Ytdfbfcohindpnaa.EphemBase
