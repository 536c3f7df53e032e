/- Specials, and a fate, that were handed in, read. -/
import Derived.Test.YtkimcedmfnoeoaaGreatDoorHbF
import Derived.Test.YtkimcedmfnoeoaaGreatDoorHkF
import Derived.Test.YtkimcedmfnoeoaaGreatDoorHbJ
import Derived.Test.YtkimcedmfnoeoaaGreatDoorHbJ
import Derived.Test.YtkimcedmfnoeoaaGreatDoorHkC
import Derived.Test.YtkimcedmfnoeoaaGreatDoorHkH
import Derived.Test.YtkimcedmfnoeoaaGreatDoorHkN
set_option linter.unusedVariables false
set_option linter.unusedSimpArgs false
set_option maxRecDepth 100000
namespace Go.Proofs.YtkimcedmfnoeoaaGreatDoor.HbF
open Go Go.AM Go.AM.G Go.RowKit
open Go.ChangeShapes Go.WideShapes Go.ChangeAt Go.RowKit
def spOk (s : Spc) : Prop := s.ad < 18446744073709551616 ∧ s.kd < 256 ∧ s.tg < 18446744073709551616
theorem read_spC {H : Type} {enc : TypeId × Value → H} {W : World} {base n : Nat} {c0 : Value} {y0 : DataW H × List MemPlace} (hok : Cell.okWide Tryz.prog W .any base 35 c0) (g : DataW.trod enc Tryz.prog W 0 (fun _ => true) true n 35 [c0] = some y0) {φ0 : Phi} {m0 : Mem} (hst : St φ0 m0 W) (hno : RO m0) :
  ∃ (u : V) (l : List Spc) (φ : Phi) (m : Mem), Ext φ0 φ ∧ Grow m0 m ∧ St φ m W ∧ RO m ∧ R φ u c0 ∧ Sl m u 3 (l.map spcV) ∧ (∀ s ∈ l, spOk s) ∧ (l = [] ∨ ∃ D sp, y0.1 = .slice D sp ∧ D.length = l.length) ∧ capOk u := by
 have h49 : Tryz.prog.cellsOf 49 = 1 := by kernel_rfl
 have h25 : Tryz.prog.cellsOf 47 = 1 := by kernel_rfl
 refine read_closedC (e := 51) Tryz.underlying35 (z := 3) (by kernel_rfl) (by decide) hok g (fun s : Spc => spOk s) spcV (fun x => ⟨rfl, by simp [spcV, V.isCell]⟩) ?_ hst hno
 intro k cs x hl e2
 obtain ⟨z0, z1, z2, k, _, hlen, f0, f1, f2⟩ := Deep.trod_struct3 Tryz.underlying51 e2
 simp only [h49, h25] at f0 f1 f2
 obtain ⟨x0, e0, _, w0⟩ := DataW.trod_int Tryz.underlying47 f0
 obtain ⟨x1, e3, _, w1⟩ := DataW.trod_int Tryz.underlying49 f1
 obtain ⟨x2, e4, _, w2⟩ := DataW.trod_int Tryz.underlying47 f2
 have w0' : 0 ≤ x0 ∧ x0 < 18446744073709551616 := by simp [Lit.wf, IntKind.min, IntKind.max, IntKind.signed, IntKind.bits] at w0; omega
 have w1' : 0 ≤ x1 ∧ x1 < 256 := by simp [Lit.wf, IntKind.min, IntKind.max, IntKind.signed, IntKind.bits] at w1; omega
 have w2' : 0 ≤ x2 ∧ x2 < 18446744073709551616 := by simp [Lit.wf, IntKind.min, IntKind.max, IntKind.signed, IntKind.bits] at w2; omega
 refine ⟨⟨x0.toNat, x1.toNat, x2.toNat⟩, ⟨by show x0.toNat < _; omega, by show x1.toNat < _; omega, by show x2.toNat < _; omega⟩, fun φ => ?_⟩
 match cs, hl with
 | [b0, b1, b2], _ =>
  simp at e0 e3 e4
  subst e0 e3 e4
  have i0 : ((x0.toNat : Nat) : Int) = x0 := by omega
  have i1 : ((x1.toNat : Nat) : Int) = x1 := by omega
  have i2 : ((x2.toNat : Nat) : Int) = x2 := by omega
  simp only [spcV, i0, i1, i2]
  exact Rs.cons R.int (Rs.cons R.int (Rs.one R.int))
def FtIn (m : Mem) (u : V) (x : FtA) : Prop := ∃ l k f c, u = .agg [l, k, f, c] ∧ FtRd m l k f c x ∧ V.beq l l = true ∧ V.beq k k = true ∧ V.beq f f = true ∧ V.beq c c = true
theorem FtIn.grow {m m' : Mem} {u : V} {x : FtA} (h : FtIn m u x) (hg : Grow m m') : FtIn m' u x := by
 obtain ⟨l, k, f, c, e, h, r⟩ := h
 obtain ⟨g, rfl⟩ := hg
 exact ⟨l, k, f, c, e, h.app, r⟩
end Go.Proofs.YtkimcedmfnoeoaaGreatDoor.HbF
set_option maxRecDepth 100000
namespace Go.Proofs.YtkimcedmfnoeoaaGreatDoor.HbF
open Go Go.AM Go.AM.G Go.RowKit
theorem eph_used {l : List E.Slot} (h : ∀ s, s ∈ l → slotOk s) (hv : E.validB l = true) {x : E.Slot} (hx : x ∈ l) (h1 : x.st = 1) : ∃ i, i < (ephK l).length ∧ x.key = (nx (ephK l) i : Nat) ∧ x.val = (nx (ephW l) i : Nat) := by
 have hu : x ∈ E.srtL (E.used l) := (E.srtL_perm (d := E.used l)).mem_iff.2 (by unfold E.used; exact List.mem_filter.2 ⟨hx, by simp [h1]⟩)
 obtain ⟨i, hi, e⟩ := List.getElem_of_mem hu
 have e1 : (E.allL l).1 = (E.srtL (E.used l)).map (·.key) := by unfold E.allL; rw [if_pos hv]
 have e2 : (E.allL l).2.1 = (E.srtL (E.used l)).map (·.val) := by unfold E.allL; rw [if_pos hv]
 have k1 := (h x hx).2.1.1
 have k2 := (h x hx).2.2.1
 refine ⟨i, by unfold ephK; rw [e1]; simpa using hi, ?_, ?_⟩
 ·unfold ephK nx
  rw [e1, List.map_map, List.getD_eq_getElem?_getD, List.getElem?_map, List.getElem?_eq_getElem hi, e]
  show x.key = ((x.key.toNat : Nat) : Int)
  omega
 ·unfold ephW nx
  rw [e2, List.map_map, List.getD_eq_getElem?_getD, List.getElem?_map, List.getElem?_eq_getElem hi, e]
  show x.val = ((x.val.toNat : Nat) : Int)
  omega
end Go.Proofs.YtkimcedmfnoeoaaGreatDoor.HbF
set_option maxRecDepth 100000
namespace Go.Proofs.YtkimcedmfnoeoaaGreatDoor.HbF
open Go Go.AM Go.AM.G Go.RowKit
open Go.ChangeShapes Go.WideShapes Go.ChangeAt Go.RowKit
def SpIn (m : Mem) (u : V) (l : List Spc) : Prop := Sl m u 3 (l.map spcV)
theorem SpIn.grow {m m' : Mem} {u : V} {l : List Spc} (h : SpIn m u l) (hg : Grow m m') : SpIn m' u l := Sl.grow h hg
theorem read_specials {H : Type} {enc : TypeId × Value → H} {W : World} {base : Nat} {v : Value} {d : DataW H} {ps : List MemPlace} {ts : List TypeId} {ds : List (DataW H)} {j : Nat} (hv : Value.okWide Tryz.prog W .any base 35 v) (h : DataW.Trod enc Tryz.prog W 0 (fun _ => true) true 35 v d ps) (hsz : (DataW.weightsEach Tryz.prog ts ds).all (· ≤ reachBytes) = true) (ht : ts[j]? = some 35) (hd : ds[j]? = some d) {φ0 : Phi} {m0 : Mem} (hst : St φ0 m0 W) (hno : RO m0) :
  ∃ (u : V) (l : List Spc) (φ : Phi) (m : Mem), Ext φ0 φ ∧ Grow m0 m ∧ St φ m W ∧ RO m ∧ R φ u v ∧ SpIn m u l ∧ l.length < 5864062014806 ∧ capOk u ∧ ∀ s ∈ l, spOk s := by
 have hb51 : Tryz.prog.bytesOf 51 = 24 := by kernel_rfl
 obtain ⟨fuel, hf⟩ := h
 have hc : v.cells.toList = [v] ∧ Cell.okWide Tryz.prog W .any base 35 v := by
  cases v with
  | agg cs =>
   simp only [Value.okWide, Tryz.underlying35] at hv
   simp [Cell.okWide, Tryz.underlying35, Cell.ok] at hv
  | _ => exact ⟨rfl, by simpa only [Value.okWide, Tryz.underlying35] using hv⟩
 rw [hc.1] at hf
 obtain ⟨u, l, φ, m, a1, a2, a3, a4, a5, a6, a7, a8, a9⟩ := read_spC hc.2 hf hst hno
 refine ⟨u, l, φ, m, a1, a2, a3, a4, a5, a6, ?_, a9, a7⟩
 rcases a8 with rfl | ⟨D, sp, e1, e2⟩
 ·decide
 ·have w0 := DataW.weights_mem_each (P := Tryz.prog) ht hd ((D.length + sp.length) * Tryz.prog.bytesOf 51) (by
   have e1' : d = .slice D sp := e1
   rw [e1']; simp [DataW.weights, Tryz.underlying35])
  have := of_decide_eq_true (List.all_eq_true.1 hsz _ w0)
  rw [hb51] at this
  have : (D.length + sp.length) * 24 ≤ 0x7ffffffff000 := this
  omega
end Go.Proofs.YtkimcedmfnoeoaaGreatDoor.HbF
set_option maxRecDepth 100000
namespace Go.Proofs.YtkimcedmfnoeoaaGreatDoor.HbF
open Go Go.AM Go.AM.G Go.RowKit
theorem nxt_same {a : Nat → Nat} {l : List E.Slot} (h : ∀ s, s ∈ l → slotOk s) (hv : E.validB l = true) {x b : Nat} : nxtM a (ephK l) (ephW l) x b ↔ nxtS a l x b := by
 unfold nxtM nxtS
 refine or_congr Iff.rfl ⟨?_, ?_⟩
 ·rintro ⟨i, hi, h1, h2⟩
  have e1 : (E.allL l).1 = (E.srtL (E.used l)).map (·.key) := by unfold E.allL; rw [if_pos hv]
  have e2 : (E.allL l).2.1 = (E.srtL (E.used l)).map (·.val) := by unfold E.allL; rw [if_pos hv]
  have hi' : i < (E.srtL (E.used l)).length := by
   unfold ephK at hi
   rw [e1] at hi
   simpa using hi
  have hm := (E.srtL_perm (d := E.used l)).mem_iff.1 (List.getElem_mem hi')
  obtain ⟨m1, m2⟩ := List.mem_filter.1 hm
  have k1 := (h _ m1).2.1.1
  have k2 := (h _ m1).2.2.1
  have h1' : x = ((E.srtL (E.used l))[i]).key.toNat := by
   rw [← h1]
   unfold ephK nx
   rw [e1, List.map_map, List.getD_eq_getElem?_getD, List.getElem?_map, List.getElem?_eq_getElem hi']
   rfl
  have h2' : b = ((E.srtL (E.used l))[i]).val.toNat := by
   rw [← h2]
   unfold ephW nx
   rw [e2, List.map_map, List.getD_eq_getElem?_getD, List.getElem?_map, List.getElem?_eq_getElem hi']
   rfl
  exact ⟨_, m1, by simpa using m2, by omega, by omega⟩
 ·rintro ⟨q, hq, h1, h2, h3⟩
  obtain ⟨i, hi, e1, e2⟩ := eph_used h hv hq h1
  exact ⟨i, hi, by omega, by omega⟩
theorem key_pos {l : List E.Slot} (hv : E.validB l = true) {q : E.Slot} (hq : q ∈ l) (h1 : q.st = 1) : q.key ≠ 0 := by
 rcases E.valid_iff.1 hv with h0 | ⟨h2, _⟩
 ·cases l with
  | nil => simp at hq
  | cons a l => simp at h0
 ·obtain ⟨j, hj, e⟩ := List.getElem_of_mem hq
  exact (h2.find (List.getElem?_eq_getElem hj) (by rw [e]; exact h1)).2 |> fun h => by rwa [e] at h
theorem ok_same {cs rs : List Nat} {l : List E.Slot} (h : ∀ s, s ∈ l → slotOk s) (hv : E.validB l = true) : mOk cs rs (ephK l) (ephW l) ↔ rOk cs rs l := by
 have hlen : (ephK l).length = (ephW l).length := by
  obtain ⟨_, _, h3, _⟩ := all_range h
  simp [ephK, ephW, h3]
 constructor
 ·intro hm
  refine ⟨fun a ha => hm a (List.mem_append_left _ ha), fun q hq h1 a b ea eb => ?_⟩
  obtain ⟨i, hi, e1, e2⟩ := eph_used h hv hq h1
  have hk := key_pos hv hq h1
  have ha : a = nx (ephK l) i := by omega
  have hb : b = nx (ephW l) i := by omega
  refine ⟨?_, ?_⟩
  ·rw [ha]
   exact (hm _ (List.mem_append_right _ (List.mem_append_right _ (nx_mem hi)))).resolve_left (by omega)
  ·rw [hb]
   exact hm _ (List.mem_append_right _ (List.mem_append_left _ (nx_mem (by omega))))
 ·intro hr a ha
  have T : ∀ i, i < (ephK l).length → nx (ephK l) i ∈ cs ∧ (nx (ephW l) i = 0 ∨ nx (ephW l) i ∈ cs) := fun i hi => by
   have := (nxt_same (a := fun _ => 0) h hv (x := nx (ephK l) i) (b := nx (ephW l) i)).1 (.inr ⟨i, hi, rfl, rfl⟩)
   rcases this with ⟨f, hf, hb, _⟩ | ⟨q, hq, h1, h2, h3⟩
   ·simp at hf
   ·exact hr.s q hq h1 _ _ h2 h3
  rcases List.mem_append.1 ha with ha | ha
  ·exact hr.r a ha
  ·rcases List.mem_append.1 ha with ha | ha
   ·obtain ⟨i, hi, rfl⟩ := nx_of ha
    exact (T i (by omega)).2
   ·obtain ⟨i, hi, rfl⟩ := nx_of ha
    exact .inr (T i hi).1
theorem Rcb.same {rs : List Nat} {n1 n2 : Nat → Nat → Prop} (hn : ∀ x b, n1 x b ↔ n2 x b) {x : Nat} : Rcb rs n1 x ↔ Rcb rs n2 x := by
 constructor
 ·intro h
  induction h with
  | root h1 h2 => exact .root h1 h2
  | step _ h2 h3 ih => exact .step ih ((hn _ _).1 h2) h3
 ·intro h
  induction h with
  | root h1 h2 => exact .root h1 h2
  | step _ h2 h3 ih => exact .step ih ((hn _ _).2 h2) h3
theorem reach_agree {H : HeapA} {s : List E.Slot} {rs : List Nat} {m g M : Mem} {r r' : V} (hso : ∀ q, q ∈ s → slotOk q) (h1 : mReachR H (E.validB s = true) rs (ephK s) (ephW s) m g r) (h2 : rReachR H s rs M r') :
  ∃ va vb e L, r = .tup [va, .int .i64 e] ∧ r' = .tup [vb, .int .i64 e] ∧ Nus (m ++ g) va L ∧ Nus M vb L ∧ L.length ≤ 2048 := by
 rcases h1 with ⟨a1, rfl⟩ | ⟨a1, a2, a3, rfl⟩ | ⟨a1, a2, a3, v, L, rfl, a4, a5, a6, a7⟩
 all_goals rcases h2 with ⟨b1, rfl⟩ | ⟨b1, b2, b3, rfl⟩ | ⟨b1, b2, b3, v', L', rfl, b4, b5, b6, b7⟩
 ·exact ⟨.nils, .nils, 2, [], rfl, rfl, .inl ⟨rfl, rfl⟩, .inl ⟨rfl, rfl⟩, Nat.zero_le _⟩
 ·exact absurd ⟨b1, b2⟩ a1
 ·exact absurd ⟨b1, b2⟩ a1
 ·exact absurd ⟨a1, a2⟩ b1
 ·exact ⟨.nils, .nils, 10, [], rfl, rfl, .inl ⟨rfl, rfl⟩, .inl ⟨rfl, rfl⟩, Nat.zero_le _⟩
 ·exact absurd ((ok_same hso a2).2 b3) a3
 ·exact absurd ⟨a1, a2⟩ b1
 ·exact absurd ((ok_same hso a2).1 a3) b3
 ·have e : L' = L := rise_ext b5 a5 fun x => by
   rw [b7, a7]
   exact (Rcb.same fun x b => nxt_same hso a2).symm
  subst e
  refine ⟨v, v', 0, L', rfl, rfl, ?_, b4.n, a6⟩
  have := Gw.sl (G := []) (A := m) a4
  rw [List.append_nil] at this
  exact Nus.of this
theorem ft_same {H : HeapA} {s : List E.Slot} {rs : List Nat} {l : List Spc} (hso : ∀ q, q ∈ s → slotOk q) : FtOk H (E.validB s = true) rs (ephK s) (ephW s) l ↔ FrOk H s rs l := by
 constructor
 ·intro h
  exact ⟨h.hR, h.ok, h.sp, (ok_same hso h.ok).1 h.m, fun x hx => (h.a x hx).resolve_left (h.sp.pos hx)⟩
 ·intro h
  exact ⟨h.hR, h.ok, h.sp, (ok_same hso h.ok).2 h.m, fun x hx => .inr (h.a x hx)⟩
def ftOf (L Kp : List Nat) (F C : List Spc) : FtA := ⟨L.length, nx L, Kp.length, nx Kp, F.length, spOf F, C.length, spOf C⟩
theorem ft_rd {M : Mem} {lv kv fv cv : V} {L Kp : List Nat} {F C : List Spc} (h1 : Nus M lv L) (h2 : Nus M kv Kp) (h3 : Sl M fv 3 (F.map spcV)) (h4 : Sl M cv 3 (C.map spcV)) (l1 : L.length ≤ 2048) (l2 : Kp.length ≤ 2048) (l3 : F.length ≤ 64) (l4 : C.length ≤ 64) : FtRd M lv kv fv cv (ftOf L Kp F C) :=
 ⟨h1, h2, Sps.of h3, Sps.of h4, by show L.length < _; omega, by show Kp.length < _; omega, by show F.length < _; omega, by show C.length < _; omega⟩
theorem fate_agree {H : HeapA} {s : List E.Slot} {rs : List Nat} {l : List Spc} {M M' : Mem} {r r' : V} (hso : ∀ q, q ∈ s → slotOk q) (h1 : mFateR H (E.validB s = true) rs (ephK s) (ephW s) l M r) (h2 : rFateR H s rs l M' r') :
  ∃ a b c d a' b' c' d' e x, r = .tup [.agg [a, b, c, d], .int .i64 e] ∧ r' = .tup [.agg [a', b', c', d'], .int .i64 e] ∧ FtRd M a b c d x ∧ FtRd M' a' b' c' d' x := by
 rcases h1 with ⟨a1, rfl⟩ | ⟨a1, a2, a3, a4, rfl⟩ | ⟨a0, lv, kv, fv, cv, L, Kp, rfl, a1, a2, a3, a4, a5, a6, a7, a8, a9, a10⟩
 all_goals rcases h2 with ⟨b1, rfl⟩ | ⟨b1, b2, b3, b4, rfl⟩ | ⟨b0, lv', kv', fv', cv', L', Kp', rfl, b1, b2, b3, b4, b5, b6, b7, b8, b9, b10⟩
 ·exact ⟨_, _, _, _, _, _, _, _, 2, ft0, rfl, rfl, ft0_rd, ft0_rd⟩
 ·exact absurd ⟨b1, b2, b3⟩ a1
 ·exact absurd ⟨b0.hR, b0.ok, b0.sp⟩ a1
 ·exact absurd ⟨a1, a2, a3⟩ b1
 ·exact ⟨_, _, _, _, _, _, _, _, 10, ft0, rfl, rfl, ft0_rd, ft0_rd⟩
 ·exact absurd ((ft_same hso).2 b0) a4
 ·exact absurd ⟨a0.hR, a0.ok, a0.sp⟩ b1
 ·exact absurd ((ft_same hso).1 a0) b4
 ·have e : L' = L := rise_ext b5 a5 fun x => by
   rw [b9, a9]
   exact (Rcb.same fun x b => nxt_same hso a0.ok).symm
  subst e
  have e : Kp' = Kp := rise_ext b6 a6 fun x => by
   rw [b10, a10]
   exact (Rcb.same fun x b => nxt_same hso a0.ok).symm
  subst e
  have l3 : (finL l L').length ≤ 64 := Nat.le_trans (List.length_filter_le _ _) a0.sp.1
  have l4 : (keep (someP 2 Kp') l).length ≤ 64 := Nat.le_trans (List.length_filter_le _ _) a0.sp.1
  exact ⟨_, _, _, _, _, _, _, _, 0, ftOf L' Kp' (finL l L') (keep (someP 2 Kp') l), rfl, rfl, ft_rd a1 a2 a3 a4 a7 a8 l3 l4, ft_rd b1 b2 b3 b4 b7 b8 l3 l4⟩
abbrev eOk (s : E.Slot) : Prop := slotOk s
end Go.Proofs.YtkimcedmfnoeoaaGreatDoor.HbF
namespace Go.AM.G
open Go Go.AM
open Go.Proofs.YtkimcedmfnoeoaaGreatDoor.HbF (eOk eph_all ephK ephW reach_agree fate_agree)
theorem mReachR.gen' {H : HeapA} {ok : Prop} {rs K W : List Nat} {m g : Mem} {r : V} (h : mReachR H ok rs K W m g r) : ∃ (v : V) (e : Int) (L : List Nat), r = .tup [v, .int .i64 e] ∧ v.isCell = true ∧ (e = 0 → H.right ∧ ok ∧ mOk (curs (obs H H.ns)) rs K W ∧ Gw m.length g v 1 (u64l L) ∧ L.length ≤ 2048 ∧ ∀ a, a ∈ L ↔ Rcb rs (nxtM H.a K W) a) := by
 rcases h with ⟨_, rfl⟩ | ⟨_, _, _, rfl⟩ | ⟨h1, h2, h3, v, L, rfl, h4, _, h5, h6⟩
 ·exact ⟨.nils, 2, [], rfl, rfl, fun e => by omega⟩
 ·exact ⟨.nils, 10, [], rfl, rfl, fun e => by omega⟩
 ·exact ⟨v, 0, L, rfl, h4.cell, fun _ => ⟨h1, h2, h3, h4, h5, h6⟩⟩
theorem mFateR.gen {H : HeapA} {ok : Prop} {rs K W : List Nat} {l : List Spc} {M : Mem} {r : V} (h : mFateR H ok rs K W l M r) : ∃ a b c d e, r = .tup [.agg [a, b, c, d], .int .i64 e] ∧ a.isCell = true ∧ b.isCell = true ∧ c.isCell = true ∧ d.isCell = true := by
 rcases h with ⟨_, rfl⟩ | ⟨_, _, _, _, rfl⟩ | ⟨_, lv, kv, fv, cv, L, Kp, rfl, h1, h2, h3, h4, _⟩
 ·exact ⟨_, _, _, _, _, rfl, rfl, rfl, rfl, rfl⟩
 ·exact ⟨_, _, _, _, _, rfl, rfl, rfl, rfl, rfl⟩
 ·exact ⟨_, _, _, _, _, rfl, h1.ar.2.1, h2.ar.2.1, h3.cell, h4.cell⟩
theorem same_self {x : FtA} : x.same x := ⟨⟨rfl, fun _ _ => rfl⟩, ⟨rfl, fun _ _ => rfl⟩, ⟨rfl, fun _ _ => rfl⟩, ⟨rfl, fun _ _ => rfl⟩⟩
open Classical in
theorem AlikeY {m : Mem} {l k f c l' k' f' c' : V} {x : FtA} (hx : FtRd m l k f c x) (hy : FtRd m l' k' f' c' x) : C S n_model_Alike [.agg [l, k, f, c], .agg [l', k', f', c']] m (fun r m' => r = .bool true ∧ Grow m m') := by
 refine (Alike_spec hx hy).mono ?_
 rintro _ _ ⟨rfl, hg⟩
 rw [decide_eq_true same_self]
 exact ⟨rfl, hg⟩
open Classical in
theorem RefAlikeY {m : Mem} {l k f c l' k' f' c' : V} {x : FtA} (hx : FtRd m l k f c x) (hy : FtRd m l' k' f' c' x) : C S n_ref11_Alike [.agg [l, k, f, c], .agg [l', k', f', c']] m (fun r m' => r = .bool true ∧ Grow m m') := by
 refine (RefAlike_spec hx hy).mono ?_
 rintro _ _ ⟨rfl, hg⟩
 rw [decide_eq_true same_self]
 exact ⟨rfl, hg⟩
theorem ModelTells_spec {m : Mem} {aw uw sv tv rv lv : V} {va vm : Nat → V} {H : HeapA} {rs : List Nat} {s : List E.Slot} {l : List Spc} (h : HpRd m aw uw sv va vm H) (hrs : Nus m rv rs) (hrl : rs.length + 64 + 128 ≤ 17592186044416) (ht : Sl m tv 3 (E.encs s)) (htl : s.length < 5864062014806) (hso : ∀ q, q ∈ s → eOk q)
  (hs : Sl m lv 3 (l.map spcV)) (hsc : capOk lv) (hsl : l.length < 5864062014806) :
  C S n_law11_ModelTells [.agg (heapV H aw uw sv), rv, .agg [tv], lv] m (fun r _ => r = .bool true) := by
 have A := h.a.ar.2.1
 have B := h.u.ar.2.1
 have D := h.s.s.ar.2.1
 have A1 := hrs.ar.2.1
 have tc := ht.cell
 have lc := hs.cell
 obtain ⟨hA, hKW, hKl⟩ := eph_all ht htl hso
 have hN' := PLift.up (fun q (hq : q ∈ s) => (⟨q.key.toNat, q.val.toNat, by have := (hso q hq).2.1.1; omega, by have := (hso q hq).2.2.1; omega⟩ : ∃ a b : Nat, q.key = a ∧ q.val = b))
 have hA' := PLift.up hA
 have ht' := PLift.up ht
 have hs' := PLift.up hs
 have hsc' := PLift.up hsc
 have hrs' := PLift.up hrs
 have hso' := PLift.up hso
 clear hA ht hs hsc hrs hso
 refine fn rfl ?_
 refine am ?_
 refine (MReach_spec (rs := rs) h.app tc hA'.down.app hKW (by omega) hrs'.down.app (by omega)).mono ?_
 rintro r1 _ ⟨g1, rfl, hr1⟩
 obtain ⟨v1, e1, L1, rfl, v1c, _⟩ := mReachR.gen' hr1
 have hr1' := PLift.up hr1
 clear hr1
 simp only [List.append_assoc, List.cons_append, List.nil_append]
 refine am ?_
 refine (ref_Reach_spec (s := s) h.app hrs'.down.app (by omega) ht'.down.app htl hN'.down).mono ?_
 rintro r2 _ ⟨g2, rfl, hr2⟩
 simp only [List.append_assoc, List.cons_append] at hr2 ⊢
 obtain ⟨va, vb, e, L, h1, rfl, n1, n2, hll⟩ := reach_agree hso'.down hr1'.down hr2
 obtain ⟨rfl, rfl⟩ : v1 = va ∧ e1 = e := by simpa using h1
 have vbc := n2.ar.2.1
 have n1' := PLift.up (show ∀ G, Nus (m ++ .cells true [heapV H aw uw sv] :: .cells true [[tv]] :: (g1 ++ G)) v1 L from fun G => by
  have := n1.app (g := G)
  simpa only [List.append_assoc, List.cons_append, List.nil_append] using this)
 have n2' := PLift.up (show ∀ G, Nus (m ++ .cells true [heapV H aw uw sv] :: .cells true [[tv]] :: (g1 ++ (g2 ++ G))) vb L from fun G => by
  have := n2.app (g := G)
  simpa only [List.append_assoc, List.cons_append, List.nil_append] using this)
 clear hr1' hr2 n1 n2 h1
 refine am ?_
 refine (Fate_spec (l := l) h.app tc hA'.down.app hKW (by omega) hrs'.down.app (by omega) hs'.down.app hsc'.down hsl).mono ?_
 rintro r3 _ ⟨g3, rfl, hr3⟩
 obtain ⟨fa, fb, fc, fd, e3, rfl, fac, fbc, fcc, fdc⟩ := hr3.gen
 have hr3' := PLift.up hr3
 clear hr3
 simp only [List.append_assoc, List.cons_append, List.nil_append]
 refine am ?_
 refine (ref_Fate_spec (l := l) (s := s) h.app hrs'.down.app (by omega) ht'.down.app htl hN'.down hs'.down.app hsc'.down hsl).mono ?_
 rintro r4 _ ⟨g4, rfl, hr4⟩
 obtain ⟨xa, xb, xc, xd, ya, yb, yc, yd, e4, x, h3, rfl, f1, f2⟩ := fate_agree hso'.down hr3'.down hr4
 obtain ⟨⟨rfl, rfl, rfl, rfl⟩, rfl⟩ : (fa = xa ∧ fb = xb ∧ fc = xc ∧ fd = xd) ∧ e3 = e4 := by simpa using h3
 have yac := f2.l.ar.2.1
 have ybc := f2.k.ar.2.1
 have ycc := f2.f.ar.2.1
 have ydc := f2.c.ar.2.1
 have f1' := PLift.up (show ∀ G, FtRd (m ++ .cells true [heapV H aw uw sv] :: .cells true [[tv]] :: (g1 ++ (g2 ++ (g3 ++ G)))) fa fb fc fd x from fun G => by
  have := f1.app (g := G)
  simpa only [List.append_assoc, List.cons_append, List.nil_append] using this)
 have f2' := PLift.up (show ∀ G, FtRd (m ++ .cells true [heapV H aw uw sv] :: .cells true [[tv]] :: (g1 ++ (g2 ++ (g3 ++ .cells true [[fa, fb, fc, fd]] :: (g4 ++ G))))) ya yb yc yd x from fun G => by
  have := f2.app (g := G)
  simpa only [List.append_assoc, List.cons_append, List.nil_append] using this)
 clear hr3' hr4 f1 f2 h3
 simp only [List.append_assoc, List.cons_append, List.nil_append]
 refine am ?_
 refine lives_spec.mono ?_
 rintro _ _ ⟨rfl, rfl⟩
 refine am ?_
 refine (SameW_spec (n1'.down _) (n2'.down _) (by omega)).mono ?_
 rintro _ _ ⟨rfl, rfl⟩
 rw [decide_eq_true ⟨rfl, fun _ _ => rfl⟩]
 have q1 : ((e1 : Int) = e1) = True := eq_true rfl
 have q3 : ((e3 : Int) = e3) = True := eq_true rfl
 refine am ?_
 refine (RefAlikeY (f1'.down _) (f2'.down _)).mono ?_
 rintro _ _ ⟨rfl, ⟨g5, rfl⟩⟩
 refine am ?_
 refine (AlikeY (f1'.down _) (f2'.down _)).mono ?_
 rintro _ _ ⟨rfl, ⟨g6, rfl⟩⟩
 exact byam
end Go.AM.G
namespace Go.Proofs.YtkimcedmfnoeoaaGreatDoor.HbF
open Go Go.AM Go.AM.G Go.RowKit
theorem modelTells_law {m : Mem} {u v t w : V} {H : HeapA} {l : List Nat} {s : List E.Slot} {L : List Spc} (h : HpIn m u H) (hr : NuIn m v l) (hl : l.length ≤ 17592186043904) (ht : Sl m t 3 (E.encs s)) (hs : s.length < 5864062014806 ∧ ∀ x ∈ s, slotOk x) (hL : SpIn m w L) (hLl : L.length < 5864062014806 ∧ capOk w ∧ ∀ s ∈ L, spOk s) : C S n_law11_ModelTells [u, v, .agg [t], w] m (fun r _ => r = .bool true) := by
 obtain ⟨aw, uw, sv, va, vm, rfl, h⟩ := h
 exact ModelTells_spec h hr (by omega) ht hs.1 hs.2 hL hLl.2.1 hLl.1
end Go.Proofs.YtkimcedmfnoeoaaGreatDoor.HbF
