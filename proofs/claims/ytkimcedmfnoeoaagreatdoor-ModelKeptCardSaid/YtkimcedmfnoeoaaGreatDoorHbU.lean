/- ModelKept, of what is read. -/
import Derived.Test.YtkimcedmfnoeoaaGreatDoorHbO
import Derived.Test.YtkimcedmfnoeoaaGreatDoorHbQ
import Derived.Test.YtkimcedmfnoeoaaGreatDoorHkH
set_option linter.unusedVariables false
set_option linter.unusedSimpArgs false
set_option maxRecDepth 100000
namespace Go.Proofs.YtkimcedmfnoeoaaGreatDoor.HbF
open Go Go.AM Go.AM.G Go.RowKit
open Go.ChangeShapes Go.WideShapes Go.ChangeAt Go.RowKit
/-- specials that were handed in. -/
def SpIn (m : Mem) (u : V) (l : List Spc) : Prop := Sl m u 3 (l.map spcV)
theorem SpIn.grow {m m' : Mem} {u : V} {l : List Spc} (h : SpIn m u l) (hg : Grow m m') : SpIn m' u l := Sl.grow h hg
theorem read_specials {H : Type} {enc : TypeId × Value → H} {W : World} {base : Nat} {v : Value} {d : DataW H} {ps : List MemPlace} {ts : List TypeId} {ds : List (DataW H)} {j : Nat} (hv : Value.okWide Tryz.prog W .any base 35 v) (h : DataW.Trod enc Tryz.prog W 0 (fun _ => true) true 35 v d ps) (hsz : (DataW.weightsEach Tryz.prog ts ds).all (· ≤ reachBytes) = true) (ht : ts[j]? = some 35) (hd : ds[j]? = some d) {φ0 : Phi} {m0 : Mem} (hst : St φ0 m0 W) (hno : RO m0) :
    ∃ (u : V) (l : List Spc) (φ : Phi) (m : Mem), Ext φ0 φ ∧ Grow m0 m ∧ St φ m W ∧ RO m ∧ R φ u v ∧ SpIn m u l ∧ l.length < 5864062014806 ∧ capOk u ∧ ∀ s ∈ l, spOk s := by
  have hb51 : Tryz.prog.bytesOf 51 = 24 := by kernel_rfl
  obtain ⟨fuel, hf⟩ := h
  have hc : v.cells.toList = [v] ∧ Cell.okWide Tryz.prog W .any base 35 v := by
    cases v with
    | agg cs =>
      simp only [Value.okWide, Tryz.underlying35] at hv
      simp [Cell.okWide, Tryz.underlying35, Cell.ok] at hv
    | _ => exact ⟨rfl, by simpa only [Value.okWide, Tryz.underlying35] using hv⟩
  rw [hc.1] at hf
  obtain ⟨u, l, φ, m, a1, a2, a3, a4, a5, a6, a7, a8, a9⟩ := read_spC hc.2 hf hst hno
  refine ⟨u, l, φ, m, a1, a2, a3, a4, a5, a6, ?_, a9, a7⟩
  rcases a8 with rfl | ⟨D, sp, e1, e2⟩
  · decide
  · have w0 := DataW.weights_mem_each (P := Tryz.prog) ht hd ((D.length + sp.length) * Tryz.prog.bytesOf 51) (by
      have e1' : d = .slice D sp := e1
      rw [e1']; simp [DataW.weights, Tryz.underlying35])
    have := of_decide_eq_true (List.all_eq_true.1 hsz _ w0)
    rw [hb51] at this
    have : (D.length + sp.length) * 24 ≤ 0x7ffffffff000 := this
    omega
theorem modelKept_law {m : Mem} {u v t w : V} {H : HeapA} {l : List Nat} {s : List E.Slot} {L : List Spc} (h : HpIn m u H) (hr : NuIn m v l) (hl : l.length ≤ 17592186043904) (ht : Sl m t 3 (E.encs s)) (hs : s.length < 5864062014806 ∧ ∀ x ∈ s, slotOk x) (hL : SpIn m w L) (hLl : L.length < 5864062014806 ∧ capOk w ∧ ∀ s ∈ L, spOk s) : C S n_law11_ModelKept [u, v, .agg [t], w] m (fun r _ => r = .bool true) := by
  obtain ⟨aw, uw, sv, va, vm, rfl, h⟩ := h
  obtain ⟨h1, h2, h3⟩ := eph_all ht hs.1 hs.2
  exact ModelKept_spec h ht.cell h1 h2 h3 hr (by omega) hL hLl.2.1 hLl.1
end Go.Proofs.YtkimcedmfnoeoaaGreatDoor.HbF
