/- Part of the proof: contracts of functions of the given program on an abstract machine. -/
import Derived.Test.YtdfbfcohindpnaaRows
import Derived.Test.YtdfbfcohindpnaaEphemI0
import Derived.Test.YtdfbfcohindpnaaAmRead
import Derived.Test.YtdfbfcohindpnaaAmToldA
import Derived.Shelf.Small.Bits
import Derived.WalkKit
import Derived.ProofKit
import Derived.OpenShut
import Derived.ChangeOld
import Derived.Below
import Derived.SizedLaws
import Derived.Deep.Strs
set_option linter.unusedVariables false
set_option linter.unusedSimpArgs false
namespace Go.Proofs.Ytdfbfcohindpnaa.EphemBase
open Go Go.AM Go.AM.G Go.Shelf Go.RowKit
def ren125 : Ren := { f := fun x => match x with | 125 => 44 | 128 => 54 | 129 => 55 | n => n, t := fun x => match x with | 46 => 77 | 51 => 87 | 53 => 25 | n => n, g := fun n => n }
theorem lays125 : Lays.n125 Try.prog ren125 where
  mixed := rfl
  f125 := Try.func44.trans (congrArg some (by kernel_rfl))
  f128 := Try.func54.trans (congrArg some (by kernel_rfl))
  f129 := Try.func55.trans (congrArg some (by kernel_rfl))
  t3 := Try.underlying3
  a3 := Try.isAgg3
  z3 := Try.sizeOf3
  v3 := Try.zeroValue3
  t4 := Try.underlying4
  a4 := Try.isAgg4
  z4 := Try.sizeOf4
  v4 := Try.zeroValue4
  t5 := Try.underlying5
  a5 := Try.isAgg5
  z5 := Try.sizeOf5
  v5 := Try.zeroValue5
  t9 := Try.underlying9
  a9 := Try.isAgg9
  z9 := Try.sizeOf9
  v9 := Try.zeroValue9
  t46 := Try.underlying77
  a46 := Try.isAgg77
  z46 := Try.sizeOf77
  v46 := Try.zeroValue77
  t51 := Try.underlying87
  a51 := Try.isAgg87
  z51 := Try.sizeOf87
  v51 := Try.zeroValue87
  t53 := Try.underlying25
  a53 := Try.isAgg25
  z53 := Try.sizeOf25
  v53 := Try.zeroValue25
theorem bits_Len (x : Int) (w : World) (h0 : 0 ≤ x) (h1 : x ≤ 18446744073709551615) :
    Calls Try.prog 44 #[.int .u64 x] w fun e w' => e = .returned (.int .i64 (Lib.bitLen x.toNat)) ∧ w' = w := Any.bits_Len lays125 x w h0 h1
theorem toldOk0 : ToldOk Try.prog X0 := by
  intro f t h call _ args m v m' e
  unfold X0 at h
  split at h
  · rename_i hf
    cases h
    dsimp only at e
    split at e
    · rename_i n
      split at e
      · rename_i hb
        cases e
        have hf' : f = 44 := hf
        subst hf'
        refine ⟨⟨_, Try.func44, rfl, by decide⟩, fun φ w cargs hst hr => ?_⟩
        simp only [Rs, R] at hr
        obtain ⟨c, r, rfl, rfl, rfl⟩ := hr
        refine (bits_Len n w hb.1 hb.2).mono ?_
        rintro e w' ⟨rfl, rfl⟩
        exact ⟨φ, _, rfl, Stp.refl hst, by simp only [R]; rfl⟩
      · cases e
    · cases e
  · cases h
theorem sound0 (n : Nat) : SoundCall Try.prog (callN (fun f => tab.lookup f) X0 n) := callN_ok (Checked.mixed Try.checked) tableOk toldOk0 Xfr0 n
theorem lives_ok (m : Mem) : CallOk Try.prog n_law10_lives [] m (.bool true) m := by
  have h := lives_run
  cases hc : callN (fun f => tab.lookup f) X0 70 n_law10_lives [] [] with
  | none => rw [hc] at h; cases h
  | some p =>
    obtain ⟨v, m1⟩ := p
    rw [hc] at h
    have hv : v = .bool true := by
      unfold isT at h
      split at h
      · rename_i e; cases e; rfl
      · cases h
    subst hv
    exact closed_ok (sound0 70 _ _ _ _ _ hc) m
def encV (s : Slot) : List Value := [.int .u8 s.st, .int .u64 s.key, .int .u64 s.val]
theorem enc_iff (φ : Phi) (s : Slot) (cs : List Value) : Rs φ (Go.AM.G.enc s) cs ↔ cs = encV s := by
  unfold Go.AM.G.enc encV
  constructor
  · intro h
    simp only [Rs, R] at h
    obtain ⟨_, _, rfl, rfl, _, _, rfl, rfl, _, _, rfl, rfl, rfl⟩ := h
    rfl
  · rintro rfl
    exact Rs.cons R.int (Rs.cons R.int (Rs.cons R.int Rs.nil))
open Go.ChangeShapes Go.WideShapes Go.ChangeAt Go.RowKit
/-- a slice of slots. -/
theorem read_slots' {H : Type} {enc : TypeId × Value → H} {W : World} {base n : Nat} {c0 : Value} {y0 : DataW H × List MemPlace} (hok : Cell.okWide Try.prog W .any base 22 c0) (g : DataW.trod enc Try.prog W 0 (fun _ => true) true n 22 [c0] = some y0) {φ0 : Phi} {m0 : Mem} (hst : St φ0 m0 W) (hno : RO m0) :
    ∃ (u : V) (l : List Slot) (φ : Phi) (m : Mem), Ext φ0 φ ∧ Grow m0 m ∧ St φ m W ∧ RO m ∧ R φ u c0 ∧ Sl m u 3 (encs l) ∧ (∀ s ∈ l, 0 ≤ s.st) ∧ (l = [] ∨ ∃ D sp, y0.1 = .slice D sp ∧ D.length = l.length) := by
  have h52 : Try.prog.cellsOf 52 = 1 := by kernel_rfl
  have h25 : Try.prog.cellsOf 25 = 1 := by kernel_rfl
  refine read_closed' (e := 54) Try.underlying22 (z := 3) (by kernel_rfl) (by decide) hok g (fun s : Slot => 0 ≤ s.st) Go.AM.G.enc (fun x => ⟨rfl, by simp [Go.AM.G.enc, V.isCell]⟩) ?_ hst hno
  intro k cs x hl e2
  obtain ⟨z0, z1, z2, k, _, hlen, f0, f1, f2⟩ := Deep.trod_struct3 Try.underlying54 e2
  simp only [h52, h25] at f0 f1 f2
  obtain ⟨x0, e0, _, w0⟩ := DataW.trod_int Try.underlying52 f0
  have w0' : 0 ≤ x0 := by simp [Lit.wf, IntKind.min, IntKind.max, IntKind.signed, IntKind.bits] at w0; omega
  obtain ⟨x1, e3, _, _⟩ := DataW.trod_int Try.underlying25 f1
  obtain ⟨x2, e4, _, _⟩ := DataW.trod_int Try.underlying25 f2
  refine ⟨⟨x0, x1, x2⟩, w0', fun φ => (enc_iff φ _ _).2 ?_⟩
  match cs, hl with
  | [b0, b1, b2], _ =>
    simp at e0 e3 e4
    subst e0 e3 e4
    rfl
/-- a table that was handed in. -/
theorem read_ephem0 {H : Type} {enc : TypeId × Value → H} {W : World} {base : Nat} {v : Value} {d : DataW H} {ps : List MemPlace} {ts : List TypeId} {ds : List (DataW H)} {j : Nat} (hv : Value.okWide Try.prog W .any base 24 v) (h : DataW.Trod enc Try.prog W 0 (fun _ => true) true 24 v d ps) (hsz : (DataW.weightsEach Try.prog ts ds).all (· ≤ reachBytes) = true) (ht : ts[j]? = some 24) (hd : ds[j]? = some d) {φ0 : Phi} {m0 : Mem} (hst : St φ0 m0 W) (hno : RO m0) :
    ∃ (u : V) (l : List Slot) (φ : Phi) (m : Mem), Ext φ0 φ ∧ Grow m0 m ∧ St φ m W ∧ RO m ∧ R φ (.agg [u]) v ∧ Sl m u 3 (encs l) ∧ l.length < 5864062014806 ∧ ∀ s ∈ l, 0 ≤ s.st := by
  simp only [Value.okWide, Try.underlying24] at hv
  obtain ⟨cs, rfl, hsz1, ts', hts, _, hcell⟩ := hv
  have hts' : ts' = [22] := by
    have : Try.prog.cellTypes Try.prog.depth 24 = some [22] := by kernel_rfl
    rw [this] at hts
    cases hts
    rfl
  subst hts'
  have h24 : Try.prog.cellsOf 24 = 1 := by kernel_rfl
  have h22 : Try.prog.cellsOf 22 = 1 := by kernel_rfl
  have hb21 : Try.prog.bytesOf 54 = 24 := by kernel_rfl
  rw [h24] at hsz1
  obtain ⟨c0, rfl⟩ : ∃ c0, cs = #[c0] := by
    obtain ⟨l⟩ := cs
    match l, hsz1 with
    | [c], _ => exact ⟨c, rfl⟩
  obtain ⟨t0, ht0, hok⟩ := hcell 0 c0 rfl
  simp only [List.length_cons, List.length_nil, Nat.zero_add, Nat.zero_mod, List.getElem?_cons_zero, Option.some.injEq] at ht0
  subst ht0
  obtain ⟨fuel, hf⟩ := h
  obtain ⟨y0, n, hx, _, g0⟩ := trod_struct1 Try.underlying24 hf
  simp only [h22] at g0
  have g0' : DataW.trod enc Try.prog W 0 (fun _ => true) true n 22 [c0] = some y0 := g0
  obtain ⟨u, l, φ, m, a1, a2, a3, a4, a5, a6, a8, a7⟩ := read_slots' hok g0' hst hno
  refine ⟨u, l, φ, m, a1, a2, a3, a4, R.agg1 a5, a6, ?_, a8⟩
  rcases a7 with rfl | ⟨D, sp, e1, e2⟩
  · decide
  · have hd' : ds[j]? = some (.agg [.slice D sp]) := by rw [hd, ← e1]; simp only [Prod.mk.injEq] at hx; rw [hx.1]
    have := weigh_slice1 hsz ht hd' Try.underlying24 (fl := []) rfl Try.underlying22
    rw [hb21] at this
    omega
theorem read_ephem {H : Type} {enc : TypeId × Value → H} {W : World} {base : Nat} {v : Value} {d : DataW H} {ps : List MemPlace} {ts : List TypeId} {ds : List (DataW H)} {j : Nat} (hv : Value.okWide Try.prog W .any base 24 v) (h : DataW.Trod enc Try.prog W 0 (fun _ => true) true 24 v d ps) (hsz : (DataW.weightsEach Try.prog ts ds).all (· ≤ reachBytes) = true) (ht : ts[j]? = some 24) (hd : ds[j]? = some d) {φ0 : Phi} {m0 : Mem} (hst : St φ0 m0 W) (hno : RO m0) :
    ∃ (u : V) (l : List Slot) (φ : Phi) (m : Mem), Ext φ0 φ ∧ Grow m0 m ∧ St φ m W ∧ RO m ∧ R φ (.agg [u]) v ∧ Sl m u 3 (encs l) ∧ l.length < 5864062014806 := by
  obtain ⟨u, l, φ, m, a1, a2, a3, a4, a5, a6, a7, _⟩ := read_ephem0 hv h hsz ht hd hst hno
  exact ⟨u, l, φ, m, a1, a2, a3, a4, a5, a6, a7⟩
/-- a row of numbers that was handed in. -/
theorem read_u64s {H : Type} {enc : TypeId × Value → H} {W : World} {base : Nat} {v : Value} {d : DataW H} {ps : List MemPlace} {ts : List TypeId} {ds : List (DataW H)} {j : Nat} (hv : Value.okWide Try.prog W .any base 26 v) (h : DataW.Trod enc Try.prog W 0 (fun _ => true) true 26 v d ps) (hsz : (DataW.weightsEach Try.prog ts ds).all (· ≤ reachBytes) = true) (ht : ts[j]? = some 26) (hd : ds[j]? = some d) {φ0 : Phi} {m0 : Mem} (hst : St φ0 m0 W) (hno : RO m0) :
    ∃ (u : V) (l : List Int) (φ : Phi) (m : Mem), Ext φ0 φ ∧ Grow m0 m ∧ St φ m W ∧ RO m ∧ R φ u v ∧ Sl m u 1 (ints l) ∧ l.length < 17592186044416 := by
  have hok : Cell.okWide Try.prog W .any base 26 v := by simpa only [Value.okWide, Try.underlying26] using hv
  have h25 : Try.prog.cellsOf 25 = 1 := by kernel_rfl
  have hb25 : Try.prog.bytesOf 25 = 8 := by kernel_rfl
  obtain ⟨fuel, hf⟩ := h
  have hvc : v.cells.toList = [v] := by
    unfold Cell.okWide at hok
    cases v <;> simp_all [Value.cells, Try.underlying26, Cell.ok]
  have hf' : DataW.trod enc Try.prog W 0 (fun _ => true) true fuel 26 [v] = some (d, ps) := by rw [← hvc]; exact hf
  obtain ⟨u, l, φ, m, a1, a2, a3, a4, a5, a6, a7⟩ := read_closed (e := 25) Try.underlying26 (z := 1) h25 (by decide) hok hf' (fun x : Int => [V.int .u64 x]) (fun x => ⟨rfl, by simp [V.isCell]⟩) (fun k cs x hl e2 => by
    match cs, hl with
    | [c], _ =>
      obtain ⟨x1, e3, _, _⟩ := DataW.trod_int Try.underlying25 e2
      simp at e3
      subst e3
      exact ⟨x1, fun φ => Rs.one R.int⟩) hst hno
  refine ⟨u, l, φ, m, a1, a2, a3, a4, a5, a6, ?_⟩
  rcases a7 with rfl | ⟨D, sp, e1, e2⟩
  · decide
  · have hd' : ds[j]? = some (.slice D sp) := by rw [hd, ← e1]
    have := weigh_slice hsz ht hd' Try.underlying26
    rw [hb25] at this

    omega
end Go.Proofs.Ytdfbfcohindpnaa.EphemBase
