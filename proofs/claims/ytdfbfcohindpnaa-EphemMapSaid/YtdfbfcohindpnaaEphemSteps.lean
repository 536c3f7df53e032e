/- Part of the proof: contracts of functions of the given program on an abstract machine. -/
import Derived.Test.YtdfbfcohindpnaaEphemTold
import Derived.Test.YtdfbfcohindpnaaEphemM
import Derived.ChangeArms
set_option linter.unusedVariables false
set_option linter.unusedSimpArgs false
set_option maxRecDepth 100000
namespace Go.Proofs.Ytdfbfcohindpnaa.EphemBase
open Go Go.AM Go.AM.G Go.Shelf Go.RowKit
open Go.ChangeShapes Go.WideShapes Go.ChangeAt Go.RowKit
theorem encSt_iff (φ : Phi) (s : StepA) : Rs φ (encSt s) [.bool s.del, .int .u64 s.key, .int .u64 s.val] := Rs.cons R.bool (Rs.cons R.int (Rs.cons R.int Rs.nil))
/-- a row of steps that was handed in. -/
theorem read_steps {H : Type} {enc : TypeId × Value → H} {W : World} {base : Nat} {v : Value} {d : DataW H} {ps : List MemPlace} {ts : List TypeId} {ds : List (DataW H)} {j : Nat} (hv : Value.okWide Try.prog W .any base 45 v) (h : DataW.Trod enc Try.prog W 0 (fun _ => true) true 45 v d ps) (hsz : (DataW.weightsEach Try.prog ts ds).all (· ≤ reachBytes) = true) (ht : ts[j]? = some 45) (hd : ds[j]? = some d) {φ0 : Phi} {m0 : Mem} (hst : St φ0 m0 W) (hno : RO m0) :
    ∃ (u : V) (l : List StepA) (φ : Phi) (m : Mem), Ext φ0 φ ∧ Grow m0 m ∧ St φ m W ∧ RO m ∧ R φ u v ∧ Sl m u 3 (l.map encSt) ∧ l.length < 5864062014806 := by
  have hok : Cell.okWide Try.prog W .any base 45 v := by simpa only [Value.okWide, Try.underlying45] using hv
  have h47 : Try.prog.cellsOf 47 = 3 := by kernel_rfl
  have h4 : Try.prog.cellsOf 4 = 1 := by kernel_rfl
  have h25 : Try.prog.cellsOf 25 = 1 := by kernel_rfl
  have hb47 : Try.prog.bytesOf 47 = 24 := by kernel_rfl
  obtain ⟨fuel, hf⟩ := h
  have hvc : v.cells.toList = [v] := by
    unfold Cell.okWide at hok
    cases v <;> simp_all [Value.cells, Try.underlying45, Cell.ok]
  have hf' : DataW.trod enc Try.prog W 0 (fun _ => true) true fuel 45 [v] = some (d, ps) := by rw [← hvc]; exact hf
  obtain ⟨u, l, φ, m, a1, a2, a3, a4, a5, a6, a7⟩ := read_closed (e := 47) Try.underlying45 (z := 3) h47 (by decide) hok hf' encSt (fun x => ⟨rfl, by simp [encSt, V.isCell]⟩) (fun k cs x hl e2 => by
    obtain ⟨z0, z1, z2, k, _, hlen, f0, f1, f2⟩ := Deep.trod_struct3 Try.underlying47 e2
    simp only [h4, h25] at f0 f1 f2
    obtain ⟨x0, e0, _⟩ := DataW.trod_bool Try.underlying4 f0
    obtain ⟨x1, e3, _, _⟩ := DataW.trod_int Try.underlying25 f1
    obtain ⟨x2, e4, _, _⟩ := DataW.trod_int Try.underlying25 f2
    refine ⟨⟨x0, x1, x2⟩, fun φ => ?_⟩
    match cs, hl with
    | [b0, b1, b2], _ =>
      simp at e0 e3 e4
      subst e0 e3 e4
      exact encSt_iff φ ⟨x0, x1, x2⟩) hst hno
  refine ⟨u, l, φ, m, a1, a2, a3, a4, a5, a6, ?_⟩
  rcases a7 with rfl | ⟨D, sp, e1, e2⟩
  · decide
  · have hd' : ds[j]? = some (.slice D sp) := by rw [hd, ← e1]
    have := weigh_slice hsz ht hd' Try.underlying45
    rw [hb47] at this
    omega
end Go.Proofs.Ytdfbfcohindpnaa.EphemBase
