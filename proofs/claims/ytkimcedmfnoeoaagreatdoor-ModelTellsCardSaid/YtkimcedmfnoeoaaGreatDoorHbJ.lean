/- A table that was handed in, read. -/
import Derived.Test.YtkimcedmfnoeoaaGreatDoorHbF
import Derived.Test.YtkimcedmfnoeoaaGreatDoorHbF
import Derived.LaidMore
import Derived.Stop.Joined
import Derived.Test.YtkimcedmfnoeoaaGreatDoorEpB
import Derived.Test.YtkimcedmfnoeoaaGreatDoorHmA
set_option linter.unusedVariables false
set_option linter.unusedSimpArgs false
set_option maxRecDepth 100000
namespace Go.Proofs.YtkimcedmfnoeoaaGreatDoor.HbF
open Go Go.AM Go.AM.G Go.RowKit
open Go.ChangeShapes Go.WideShapes Go.ChangeAt Go.RowKit
def slotOk (s : E.Slot) : Prop := 0 ≤ s.st ∧ (0 ≤ s.key ∧ s.key < 18446744073709551616) ∧ (0 ≤ s.val ∧ s.val < 18446744073709551616)
theorem read_slots' {H : Type} {enc : TypeId × Value → H} {W : World} {base n : Nat} {c0 : Value} {y0 : DataW H × List MemPlace} (hok : Cell.okWide Tryz.prog W .any base 32 c0) (g : DataW.trod enc Tryz.prog W 0 (fun _ => true) true n 32 [c0] = some y0) {φ0 : Phi} {m0 : Mem} (hst : St φ0 m0 W) (hno : RO m0) :
  ∃ (u : V) (l : List E.Slot) (φ : Phi) (m : Mem), Ext φ0 φ ∧ Grow m0 m ∧ St φ m W ∧ RO m ∧ R φ u c0 ∧ Sl m u 3 (E.encs l) ∧ (∀ s ∈ l, slotOk s) ∧ (l = [] ∨ ∃ D sp, y0.1 = .slice D sp ∧ D.length = l.length) := by
 have h52 : Tryz.prog.cellsOf 59 = 1 := by kernel_rfl
 have h25 : Tryz.prog.cellsOf 47 = 1 := by kernel_rfl
 refine read_closed' (e := 61) Tryz.underlying32 (z := 3) (by kernel_rfl) (by decide) hok g (fun s : E.Slot => slotOk s) E.enc (fun x => ⟨rfl, by simp [E.enc, V.isCell]⟩) ?_ hst hno
 intro k cs x hl e2
 obtain ⟨z0, z1, z2, k, _, hlen, f0, f1, f2⟩ := Deep.trod_struct3 Tryz.underlying61 e2
 simp only [h52, h25] at f0 f1 f2
 obtain ⟨x0, e0, _, w0⟩ := DataW.trod_int Tryz.underlying59 f0
 have w0' : 0 ≤ x0 := by simp [Lit.wf, IntKind.min, IntKind.max, IntKind.signed, IntKind.bits] at w0; omega
 obtain ⟨x1, e3, _, w1⟩ := DataW.trod_int Tryz.underlying47 f1
 obtain ⟨x2, e4, _, w2⟩ := DataW.trod_int Tryz.underlying47 f2
 have w1' : 0 ≤ x1 ∧ x1 < 18446744073709551616 := by simp [Lit.wf, IntKind.min, IntKind.max, IntKind.signed, IntKind.bits] at w1; omega
 have w2' : 0 ≤ x2 ∧ x2 < 18446744073709551616 := by simp [Lit.wf, IntKind.min, IntKind.max, IntKind.signed, IntKind.bits] at w2; omega
 refine ⟨⟨x0, x1, x2⟩, ⟨w0', w1', w2'⟩, fun φ => (encE_iff φ _ _).2 ?_⟩
 match cs, hl with
 | [b0, b1, b2], _ =>
  simp at e0 e3 e4
  subst e0 e3 e4
  rfl
theorem read_ephem0 {H : Type} {enc : TypeId × Value → H} {W : World} {base : Nat} {v : Value} {d : DataW H} {ps : List MemPlace} {ts : List TypeId} {ds : List (DataW H)} {j : Nat} (hv : Value.okWide Tryz.prog W .any base 34 v) (h : DataW.Trod enc Tryz.prog W 0 (fun _ => true) true 34 v d ps) (hsz : (DataW.weightsEach Tryz.prog ts ds).all (· ≤ reachBytes) = true) (ht : ts[j]? = some 34) (hd : ds[j]? = some d) {φ0 : Phi} {m0 : Mem} (hst : St φ0 m0 W) (hno : RO m0) :
  ∃ (u : V) (l : List E.Slot) (φ : Phi) (m : Mem), Ext φ0 φ ∧ Grow m0 m ∧ St φ m W ∧ RO m ∧ R φ (.agg [u]) v ∧ Sl m u 3 (E.encs l) ∧ l.length < 5864062014806 ∧ ∀ s ∈ l, slotOk s := by
 simp only [Value.okWide, Tryz.underlying34] at hv
 obtain ⟨cs, rfl, hsz1, ts', hts, _, hcell⟩ := hv
 have hts' : ts' = [32] := by
  have : Tryz.prog.cellTypes Tryz.prog.depth 34 = some [32] := by kernel_rfl
  rw [this] at hts
  cases hts
  rfl
 subst hts'
 have h24 : Tryz.prog.cellsOf 34 = 1 := by kernel_rfl
 have h22 : Tryz.prog.cellsOf 32 = 1 := by kernel_rfl
 have hb21 : Tryz.prog.bytesOf 61 = 24 := by kernel_rfl
 rw [h24] at hsz1
 obtain ⟨c0, rfl⟩ : ∃ c0, cs = #[c0] := by
  obtain ⟨l⟩ := cs
  match l, hsz1 with
  | [c], _ => exact ⟨c, rfl⟩
 obtain ⟨t0, ht0, hok⟩ := hcell 0 c0 rfl
 simp only [List.length_cons, List.length_nil, Nat.zero_add, Nat.zero_mod, List.getElem?_cons_zero, Option.some.injEq] at ht0
 subst ht0
 obtain ⟨fuel, hf⟩ := h
 obtain ⟨y0, n, hx, _, g0⟩ := trod_struct1 Tryz.underlying34 hf
 simp only [h22] at g0
 have g0' : DataW.trod enc Tryz.prog W 0 (fun _ => true) true n 32 [c0] = some y0 := g0
 obtain ⟨u, l, φ, m, a1, a2, a3, a4, a5, a6, a8, a7⟩ := read_slots' hok g0' hst hno
 refine ⟨u, l, φ, m, a1, a2, a3, a4, R.agg1 a5, a6, ?_, a8⟩
 rcases a7 with rfl | ⟨D, sp, e1, e2⟩
 ·decide
 ·have hd' : ds[j]? = some (.agg [.slice D sp]) := by rw [hd, ← e1]; simp only [Prod.mk.injEq] at hx; rw [hx.1]
  have := weigh_slice1 hsz ht hd' Tryz.underlying34 (fl := []) rfl Tryz.underlying32
  rw [hb21] at this
  omega
end Go.Proofs.YtkimcedmfnoeoaaGreatDoor.HbF
set_option maxRecDepth 100000
namespace Go.Proofs.YtkimcedmfnoeoaaGreatDoor.HbF
open Go Go.AM Go.AM.G Go.RowKit
abbrev laidB : List (String × DataW Unit) := [("math/bits.deBruijn64tab", Rows.laid_math_bits_deBruijn64tab)]
theorem gTab : Tryz.prog.globalNamed "math/bits.deBruijn64tab" = some 0 := by kernel_rfl
theorem tTab : (Tryz.prog.globals[0]?).map (·.type) = some 263 := by kernel_rfl
theorem door_met (os : Os) (args : Array Value) : laidMetH Tryz.prog laidB ((World.doorLaid Tryz.prog 14 os).forCall (fun _ _ => 0) ⟨#[], args, []⟩).memory :=
 laidMetH_of_parts3 (fuel := 8) (laidMet_of_run' 8 (by kernel_rfl) (by kernel_rfl)) (by kernel_rfl) (by kernel_rfl)
theorem tab_data {H : Type} : (Rows.laid_math_bits_deBruijn64tab : DataW H) = .agg (Lib.deBruijn64tab.map fun n : Nat => .lit (.int .u8 (n : Int))) := rfl
theorem lay_of {W : World} (h : laidMetH Tryz.prog laidB W) : Lay (fun _ => none) [] W := by
 rw [MakeChecks.laidMetH_plain _ _ _ (by kernel_rfl)] at h
 obtain ⟨ps, ⟨g0, t0, cs0, f0, p0, q0, hg0, ht0, hv0, hd0, _, _⟩, _, _⟩ := h
 obtain rfl := Option.some.inj (gTab.symm.trans hg0)
 obtain rfl := Option.some.inj (tTab.symm.trans ht0)
 have c5 : Tryz.prog.cellsOf 5 = 1 := by kernel_rfl
 obtain ⟨xs, m1, rfl, hx1, hlen, hn3, hel⟩ := DataW.trod_array Tryz.underlying263 hd0
 simp only [Prod.mk.injEq] at hx1
 have hx1 := hx1.1
 rw [tab_data] at hx1
 simp only [DataW.agg.injEq] at hx1
 have hcell : ∀ j, j < 64 → cs0[j]? = some (.int .u8 (Lib.deBruijn64tab.getD j 0)) := by
  intro j hj
  have hl : Lib.deBruijn64tab.length = 64 := rfl
  have h1 : (Lib.deBruijn64tab.map fun n : Nat => (DataW.lit (.int .u8 (n : Int)) : DataW Unit))[j]? = some (.lit (.int .u8 ((Lib.deBruijn64tab.getD j 0 : Nat) : Int))) := by
   rw [List.getElem?_map, List.getElem?_eq_getElem (by omega), List.getD_eq_getElem?_getD, List.getElem?_eq_getElem (by omega)]
   rfl
  rw [hx1, List.getElem?_map, Option.map_eq_some_iff] at h1
  obtain ⟨x, hx, e⟩ := h1
  have h2 := hel j hj
  rw [hx, c5, Nat.mul_one] at h2
  obtain ⟨k, e1, e2, _⟩ := DataW.trod_int Tryz.underlying5 h2
  rw [e2] at e
  simp at e
  subst e
  have h3 : (cs0.toList.drop j)[0]? = some (.int .u8 ((Lib.deBruijn64tab.getD j 0 : Nat) : Int)) := by
   have : ((cs0.toList.drop j).take 1)[0]? = some (.int .u8 ((Lib.deBruijn64tab.getD j 0 : Nat) : Int)) := by rw [e1]; rfl
   rwa [List.getElem?_take, if_pos (by omega)] at this
  rw [List.getElem?_drop, Nat.add_zero, Array.getElem?_toList] at h3
  exact h3
 intro _
 have h0 : ∃ c e fr, W.heap[0]? = some (.cells c e fr) ∧ ∀ j, j < 64 → c[j]? = some (.int .u8 (Lib.deBruijn64tab.getD j 0)) := by
  simp only [World.var?, gTab, Option.bind_some] at hv0
  split at hv0
  ·rename_i c e fr hh
   cases hv0
   exact ⟨_, _, _, hh, hcell⟩
  ·cases hv0
 obtain ⟨c, e, fr, h1, h2⟩ := h0
 exact ⟨(Array.getElem?_eq_some_iff.1 h1).1, ⟨c, e, fr, h1, h2⟩, by rintro (⟨b, els, p, hb, _⟩ | ⟨b, es, p, hb, _⟩) <;> simp at hb⟩
end Go.Proofs.YtkimcedmfnoeoaaGreatDoor.HbF
set_option maxRecDepth 100000
namespace Go.Proofs.YtkimcedmfnoeoaaGreatDoor.HbF
open Go Go.AM Go.AM.G Go.RowKit
def ephK (l : List E.Slot) : List Nat := (E.allL l).1.map Int.toNat
def ephW (l : List E.Slot) : List Nat := (E.allL l).2.1.map Int.toNat
theorem ints_u64 {L : List Int} (h : ∀ x, x ∈ L → 0 ≤ x) : E.ints L = u64l (L.map Int.toNat) := by
 unfold u64l
 rw [List.map_map]
 refine List.map_congr_left fun x hx => ?_
 have := h x hx
 show [V.int .u64 x] = [V.int .u64 ((x.toNat : Nat) : Int)]
 rw [Int.toNat_of_nonneg this]
theorem all_range {l : List E.Slot} (h : ∀ s, s ∈ l → slotOk s) : (∀ x, x ∈ (E.allL l).1 → 0 ≤ x) ∧ (∀ x, x ∈ (E.allL l).2.1 → 0 ≤ x) ∧ (E.allL l).1.length = (E.allL l).2.1.length ∧ (E.allL l).1.length ≤ 64 := by
 unfold E.allL
 by_cases hv : E.validB l = true
 ·rw [if_pos hv]
  have hm : ∀ s, s ∈ E.srtL (E.used l) → slotOk s := fun s hs => h s (by
   have := (E.srtL_perm (d := E.used l)).mem_iff.1 hs
   exact (List.mem_filter.1 this).1)
  refine ⟨fun x hx => ?_, fun x hx => ?_, by simp, ?_⟩
  ·obtain ⟨s, hs, rfl⟩ := List.mem_map.1 hx
   exact (hm s hs).2.1.1
  ·obtain ⟨s, hs, rfl⟩ := List.mem_map.1 hx
   exact (hm s hs).2.2.1
  ·have h1 := E.valid_len hv
   have h2 := E.used_len (l := l)
   simp only [List.length_map, E.srtL_len]; omega
 ·rw [if_neg hv]
  exact ⟨fun x hx => by simp at hx, fun x hx => by simp at hx, rfl, by simp⟩
theorem eph_all {m : Mem} {t : V} {l : List E.Slot} (ht : Sl m t 3 (E.encs l)) (hl : l.length < 5864062014806) (h : ∀ s, s ∈ l → slotOk s) : EphAll m t (E.validB l = true) (ephK l) (ephW l) ∧ (ephK l).length = (ephW l).length ∧ (ephK l).length ≤ 64 := by
 obtain ⟨r1, r2, r3, r4⟩ := all_range h
 refine ⟨fun g => (E.All_spec ht.app hl).mono ?_, by simp [ephK, ephW, r3], by simp [ephK, r4]⟩
 rintro r _ ⟨kv, vv, rfl, ⟨g', rfl⟩, h1, h2⟩
 refine ⟨g', by rw [List.append_assoc], ?_⟩
 by_cases hv : E.validB l = true
 ·have e : (E.allL l).2.2 = 0 := by unfold E.allL; rw [if_pos hv]
  refine .inl ⟨hv, kv, vv, by rw [e], h1.cell, h2.cell, Nus.of ?_, Nus.of ?_⟩
  ·rw [ints_u64 r1] at h1; exact h1
  ·rw [ints_u64 r2] at h2; exact h2
 ·have e : (E.allL l).2.2 = 2 := by unfold E.allL; rw [if_neg hv]
  exact .inr ⟨hv, kv, vv, by rw [e], h1.cell, h2.cell⟩
end Go.Proofs.YtkimcedmfnoeoaaGreatDoor.HbF
