/- A field of a current object is asked for; whether a list has an address. -/
import Derived.Test.YtkimcedmfnoeoaaGreatDoorHmG
import Derived.Test.YtkimcedmfnoeoaaGreatDoorHkA
import Derived.Test.YtkimcedmfnoeoaaGreatDoorHkA
import Derived.Test.YtkimcedmfnoeoaaGreatDoorEpB
set_option linter.unusedVariables false
set_option linter.unusedSimpArgs false
set_option maxRecDepth 100000
namespace Go.AM.G
open Go Go.AM
theorem Has_spec {m : Mem} {v : V} {l : List Nat} {a : Nat} (hv : Nus m v l) (hl : l.length < 4611686018427387904) : C S n_ref11_Has [v, .int .u64 (a : Nat)] m (fun r m' => r = .bool (decide (a ∈ l)) ∧ m' = m) := by
 have A := hv.ar
 refine fn rfl ?_
 refine range (α := Unit) l.length (fun _ => [(1, .int .u64 (a : Nat)), (7, v)]) (fun j _ M => M = m ∧ ∀ i, i < j → nx l i ≠ a) () ⟨rfl, fun i hi => absurd hi (Nat.not_lt_zero _)⟩ ?_ ?_
 ·rintro j ⟨⟩ fr _ hj F ⟨rfl, hj2⟩
  have hj2' := PLift.up hj2
  clear hj2
  by_cases e : nx l j = a
  ·have c : ((nx l j : Int) = (a : Int)) = True := eq_true (by omega)
   have yes : decide (a ∈ l) = true := decide_eq_true (e ▸ nx_mem hj)
   clear e
   refine am ?_
   trivial
  ·have c : ((nx l j : Int) = (a : Int)) = False := eq_false (by omega)
   have e' := PLift.up e
   clear e
   refine am ?_
   exact ⟨(), byam, rfl, fun i hi => by by_cases h : i = j; exact h ▸ e'.down; exact hj2'.down i (by omega)⟩
 ·rintro ⟨⟩ fr _ F ⟨rfl, hj2⟩
  have no : decide (a ∈ l) = false := decide_eq_false fun h => by
   obtain ⟨i, hi, e⟩ := nx_of h
   exact hj2 i hi e
  clear hj2
  refine am ?_
  trivial
end Go.AM.G
set_option maxRecDepth 100000
namespace Go.AM.G
open Go Go.AM
structure CxM (M : Mem) (aw uw sv tv rv v : V) (va vm : Nat → V) (H : HeapA) (ok : Prop) (rs K W L : List Nat) (s : List E.Slot) (p q : Nat) : Prop where
 h : HpRd M aw uw sv va vm H
 b3 : M[p]? = some (.cells true [heapV H aw uw sv])
 b5 : M[q]? = some (.cells true [[tv]])
 v : Nus M v L
 s : Sl M tv 3 (E.encs s)
 r : Nus M rv rs
 A : EphAll M tv ok K W
theorem CxM.app {M g : Mem} {aw uw sv tv rv v : V} {va vm : Nat → V} {H : HeapA} {ok : Prop} {rs K W L : List Nat} {s : List E.Slot} {p q : Nat} (c : CxM M aw uw sv tv rv v va vm H ok rs K W L s p q) : CxM (M ++ g) aw uw sv tv rv v va vm H ok rs K W L s p q :=
 ⟨c.h.app, getElem?_grow c.b3, getElem?_grow c.b5, c.v.app, c.s.app, c.r.app, c.A.app⟩
def sOf (l : List E.Slot) (i : Nat) : E.Slot := l.getD i default
theorem sOf_mem {l : List E.Slot} {i : Nat} (h : i < l.length) : sOf l i ∈ l := by
 unfold sOf
 rw [List.getD_eq_getElem?_getD, List.getElem?_eq_getElem h]
 exact List.getElem_mem h
theorem slots_rd {M : Mem} {v : V} {l : List E.Slot} (h : Sl M v 3 (E.encs l)) : Rd M v 3 l.length (fun i => E.enc (sOf l i)) := by
 refine .inl ?_
 have e : (List.range l.length).map (fun i => E.enc (sOf l i)) = E.encs l := by
  apply List.ext_getElem
  ·simp
  ·intro i h1 h2
   have hi : i < l.length := by simpa using h1
   simp [sOf, hi]
 rw [e]
 exact h
theorem Rcb.cur {H : HeapA} {rs K W : List Nat} (hR : H.right) (wa : w64 H.na H.a) (hKW : K.length = W.length) (hm : mOk (curs (obs H H.ns)) rs K W) {a : Nat} (k : Rcb rs (nxtM H.a K W) a) : a ∈ curs (obs H H.ns) := by
 induction k with
 | root h1 h2 => exact (hm _ (List.mem_append_left _ h1)).resolve_left h2
 | step _ h2 h3 ih =>
  rcases h2 with ⟨f, hf, h4, rfl⟩ | ⟨i, hi, _, rfl⟩
  ·exact (HeapA.right.cur hR wa ih).2.2.2.2 f hf h4 h3
  ·exact (hm _ (List.mem_append_right _ (List.mem_append_left _ (nx_mem (by omega))))).resolve_left h3
end Go.AM.G
