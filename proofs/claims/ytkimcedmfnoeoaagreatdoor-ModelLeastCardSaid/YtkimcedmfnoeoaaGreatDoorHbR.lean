/- ModelLeast, of what is read. -/
import Derived.Test.YtkimcedmfnoeoaaGreatDoorHbO
import Derived.Test.YtkimcedmfnoeoaaGreatDoorHbQ
import Derived.Test.YtkimcedmfnoeoaaGreatDoorHkE
set_option linter.unusedVariables false
set_option linter.unusedSimpArgs false
set_option maxRecDepth 100000
namespace Go.Proofs.YtkimcedmfnoeoaaGreatDoor.HbF
open Go Go.AM Go.AM.G Go.RowKit
open Go.ChangeShapes Go.WideShapes Go.ChangeAt Go.RowKit
/-- words that were handed in, in a place that is known. -/
def NuS (m : Mem) (u : V) (l : List Nat) : Prop := Sl m u 1 (u64l l)
theorem NuS.grow {m m' : Mem} {u : V} {l : List Nat} (h : NuS m u l) (hg : Grow m m') : NuS m' u l := Sl.grow h hg
theorem read_nuS {H : Type} {enc : TypeId × Value → H} {W : World} {base : Nat} {v : Value} {d : DataW H} {ps : List MemPlace} {ts : List TypeId} {ds : List (DataW H)} {j : Nat} (hv : Value.okWide Tryz.prog W .any base 22 v) (h : DataW.Trod enc Tryz.prog W 0 (fun _ => true) true 22 v d ps) (hsz : (DataW.weightsEach Tryz.prog ts ds).all (· ≤ reachBytes) = true) (ht : ts[j]? = some 22) (hd : ds[j]? = some d) {φ0 : Phi} {m0 : Mem} (hst : St φ0 m0 W) (hno : RO m0) :
    ∃ (u : V) (l : List Nat) (φ : Phi) (m : Mem), Ext φ0 φ ∧ Grow m0 m ∧ St φ m W ∧ RO m ∧ R φ u v ∧ NuS m u l ∧ l.length ≤ 17592186043904 ∧ capOk u := by
  have hb51 : Tryz.prog.bytesOf 47 = 8 := by kernel_rfl
  obtain ⟨fuel, hf⟩ := h
  have hc : v.cells.toList = [v] ∧ Cell.okWide Tryz.prog W .any base 22 v := by
    cases v with
    | agg cs =>
      simp only [Value.okWide, Tryz.underlying22] at hv
      simp [Cell.okWide, Tryz.underlying22, Cell.ok] at hv
    | _ => exact ⟨rfl, by simpa only [Value.okWide, Tryz.underlying22] using hv⟩
  rw [hc.1] at hf
  obtain ⟨u, l, φ, m, a1, a2, a3, a4, a5, a6, _, a8, a9⟩ := read_closedC (e := 47) Tryz.underlying22 (z := 1) (by kernel_rfl) (by decide) hc.2 hf (fun _ => True) encU (fun x => ⟨rfl, by simp [encU, V.isCell]⟩) (fun k cs x hl e2 => by
    obtain ⟨q, hq⟩ := u64_elem k cs x hl e2
    exact ⟨q, trivial, hq⟩) hst hno
  refine ⟨u, l.map (·.1), φ, m, a1, a2, a3, a4, a5, ?_, ?_, a9⟩
  · have e : l.map encU = u64l (l.map (·.1)) := by
      unfold u64l
      rw [List.map_map]
      rfl
    rw [e] at a6
    exact a6
  · rw [List.length_map]
    rcases a8 with rfl | ⟨D, sp, e1, e2⟩
    · decide
    · have w0 := DataW.weights_mem_each (P := Tryz.prog) ht hd ((D.length + sp.length) * Tryz.prog.bytesOf 47) (by
        have e1' : d = .slice D sp := e1
        rw [e1']; simp [DataW.weights, Tryz.underlying22])
      have := of_decide_eq_true (List.all_eq_true.1 hsz _ w0)
      rw [hb51] at this
      have : (D.length + sp.length) * 8 ≤ 0x7ffffffff000 := this
      omega
theorem eph_vals {l : List E.Slot} (h : ∀ s, s ∈ l → slotOk s) (hv : E.validB l = true) {i : Nat} (hi : i < (ephK l).length) : ∃ x, x ∈ l ∧ x.st = 1 ∧ x.val = (nx (ephW l) i : Nat) := by
  have e1 : (E.allL l).1 = (E.srtL (E.used l)).map (·.key) := by unfold E.allL; rw [if_pos hv]
  have e2 : (E.allL l).2.1 = (E.srtL (E.used l)).map (·.val) := by unfold E.allL; rw [if_pos hv]
  have hi' : i < (E.srtL (E.used l)).length := by
    unfold ephK at hi
    rw [e1] at hi
    simpa using hi
  have hm := (E.srtL_perm (d := E.used l)).mem_iff.1 (List.getElem_mem hi')
  obtain ⟨h1, h2⟩ := List.mem_filter.1 hm
  refine ⟨_, h1, by simpa using h2, ?_⟩
  have k2 := (h _ h1).2.2.1
  unfold ephW nx
  rw [e2, List.map_map, List.getD_eq_getElem?_getD, List.getElem?_map, List.getElem?_eq_getElem hi']
  generalize (E.srtL (E.used l))[i] = x at k2 ⊢
  show x.val = ((x.val.toNat : Nat) : Int)
  omega
theorem modelLeast_law {m : Mem} {u v t : V} {H : HeapA} {l : List Nat} {s : List E.Slot} {n ad : Int} (h : HpIn m u H) (hr : NuS m v l) (hl : l.length ≤ 17592186043904 ∧ capOk v) (ht : Sl m t 3 (E.encs s)) (hs : s.length < 5864062014806 ∧ ∀ x ∈ s, slotOk x) (ha : (Lit.int .u64 ad).wf = true) : C S n_law11_ModelLeast [u, v, .int .i64 n, .agg [t], .int .u64 ad] m (fun r _ => r = .bool true) := by
  obtain ⟨aw, uw, sv, va, vm, rfl, h⟩ := h
  obtain ⟨h1, h2, h3⟩ := eph_all ht hs.1 hs.2
  obtain ⟨a, rfl⟩ : ∃ a : Nat, ad = a := ⟨ad.toNat, by simp [Lit.wf, IntKind.min, IntKind.max, IntKind.signed, IntKind.bits] at ha; omega⟩
  exact ModelLeast_spec h hr hl.2 (by have := hl.1; omega) ht hs.1 h1 h2 h3 (fun _ x hx => (hs.2 x hx).2.2.1) (fun hv i hi => eph_vals hs.2 hv hi)
end Go.Proofs.YtkimcedmfnoeoaaGreatDoor.HbF
