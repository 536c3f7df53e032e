import Derived.Test.YtfhbhfogcgfeeaaGreatDoorHvG
import Derived.Test.YtfhbhfogcgfeeaaGreatDoorHvG
set_option linter.unusedVariables false
set_option linter.unusedSimpArgs false
set_option maxRecDepth 100000
namespace Go.AM.G
open Go Go.AM
def zet (X : MiA) : List Nat := X.H.cs.filter fun a => bit X.mw (a / 2)
def ziw (m : Mem) (X : MiA) (r : V) (m' : Mem) : Prop := (X.ok /\ ∃ g v, m' = m ++ g /\ r = .tup [v, .int .i64 0] /\ Ps m.length g (fun M => Sl M v 1 (zD (zet X)))) \/ (¬ X.ok /\ r = .tup [.nils, .int .i64 2] /\ Grow m m')
theorem zkZ {m : Mem} {aw uw sv mv qv hv : V} {va vm vs : Nat -> V} {X : MiA} (h : zdo m aw uw sv mv qv hv va vm vs X) : C S zeF [.agg (miV X aw uw sv mv qv hv)] m (ziw m X) := by
 have A1 := h.h.a.ar.2.1;have A2 := h.h.u.ar.2.1;have A3 := h.h.s.s.ar.2.1;have A4 := h.k.ar.2.1;have A5 := h.q.s.ar.2.1;have A6 := h.d.ar.2.1;have hh := zU h;obtain ⟨T, hT⟩ : ∃ T : V -> Mem -> Prop, T = ziw m X := ⟨_, rfl⟩
 rw [<- hT];have hT' := zU hT;clear h hT;refine fn rfl ?_;refine (zdZ hh.down.app).mono ?_;rintro _ _ ⟨⟨hk, rfl⟩ | ⟨hk, rfl⟩, ⟨g1, rfl⟩⟩
 case inr =>
  have t : PLift (∀ g, T (.tup [.nils, .int .i64 2]) (m ++ g)) := ⟨fun g => by rw [hT'.down]; exact .inr ⟨hk, rfl, _, rfl⟩⟩
  clear hk;refine am ?_;exact t.down _
 have hk' := zU hk;clear hk;refine am ?_;refine (zkV hh.down.h.app).mono ?_;rintro _ _ (⟨_, g2, v, rfl, rfl, hG⟩ | ⟨hn, _⟩)
 case inr => exact absurd hk'.down.1 hn
 have vc := hG.cell;have hG' := zU hG;clear hG;obtain ⟨hcs, hcl⟩ := zih hk'.down.1 hh.down.h.wa;have hcl' := zU hcl;clear hcs hcl;refine am ?_;have tell : zAp (m ++ .cells true [miV X aw uw sv mv qv hv] :: (g1 ++ [.cells true [[aw, .int .i64 X.H.us.N, uw, sv, mv, qv, hv]], .cells true [[.ptr (m.length + (g1.length + 1)) 0 0]]])) (.fn zfS [] [.ptr (m.length + (g1.length + 1 + 1)) 0 0]) X.H.cs (fun a => !bit X.mw (a / 2)) := fun g x hx => by
  obtain ⟨hx1, hx2⟩ := zdY hk'.down.1 hh.down.h.wa hx;have hP : ∀ G : Mem, (m ++ .cells true [miV X aw uw sv mv qv hv] :: (g1 ++ .cells true [[aw, .int .i64 X.H.us.N, uw, sv, mv, qv, hv]] :: G))[m.length + (g1.length + 1)]? = some (.cells true [[aw, .int .i64 X.H.us.N, uw, sv, mv, qv, hv]]) := fun G => by rw [zh, zbj, zY]; rfl
  have hb := fun G => zjK (hP G) hh.down.k.app hh.down.wk (show x < 18446744073709551616 by omega) (by rw [hk'.down.2.2.2.1]; exact hx2)
  have hb' := zU hb;clear hP hb hx hx1 hx2 hcl' hG';rw [ziK];dsimp only;refine fn rfl ?_;refine (hb'.down _).mono ?_;rintro _ _ ⟨rfl, rfl⟩;refine am ?_;exact ⟨[], by simp⟩
 have D := zpw hG'.down (by have := hcl'.down; unfold zm.cs at this; omega) tell;simp only [List.append_assoc, List.cons_append, List.nil_append] at D;refine D.mono ?_;rintro r _ ⟨g3, rfl, hS⟩;obtain ⟨M9, hS9⟩ := hS.ex;have rc := hS9.cell;have t : PLift (T (.tup [r, .int .i64 0]) (m ++ .cells true [miV X aw uw sv mv qv hv] :: (g1 ++ .cells true [[aw, .int .i64 X.H.us.N, uw, sv, mv, qv, hv]] :: .cells true [[.ptr (m.length + (g1.length + 1)) 0 0]] :: g3))) := ⟨by
  rw [hT'.down];refine .inl ⟨hk'.down, _, r, rfl, rfl, ?_⟩;have e : zet X = zcl (fun a => !bit X.mw (a / 2)) (zbx (obs X.H X.H.ns)) := by
   unfold zet zcl;simp only [Bool.not_not]
  rw [e];exact hS.to⟩
 clear hS hS9 tell D;refine am ?_;exact t.down
theorem zuE {p : Nat -> Bool} {l : List Nat} {k : Nat} (h : k < l.length) : (l.take (k + 1)).filter p = (l.take k).filter p ++ if p (nx l k) = true then [nx l k] else [] := by
 rw [List.take_add_one, zgN h, List.filter_append]
 congr 1
 by_cases e : p (nx l k) = true
 ·rw [if_pos e]; simp [e]
 ·rw [if_neg e]; simp [e]
theorem zsI {m : Mem} {aw uw sv mv qv hv : V} {va vm vs : Nat -> V} {X : MiA} (h : zdo m aw uw sv mv qv hv va vm vs X) : C S zhI [.agg (miV X aw uw sv mv qv hv)] m (ziw m X) := by
 have A1 := h.h.a.ar.2.1;have A2 := h.h.u.ar.2.1;have A3 := h.h.s.s.ar.2.1;have A4 := h.k.ar.2.1;have A5 := h.q.s.ar.2.1;have A6 := h.d.ar.2.1;have pb := @zdn;have hh := zU h;have cc := zU (And.intro A1 (And.intro (rfl : (V.int .i64 X.H.us.N).isCell = true) (And.intro A2 (And.intro A3 (And.intro A5 A6)))));obtain ⟨T, hT⟩ : ∃ T : V -> Mem -> Prop, T = ziw m X := ⟨_, rfl⟩
 rw [<- hT];have hT' := zU hT;clear h hT;refine fn rfl ?_;refine (zfm hh.down.app).mono ?_;rintro _ _ ⟨⟨hk, rfl⟩ | ⟨hk, rfl⟩, ⟨g1, rfl⟩⟩
 case inr =>
  have t : PLift (∀ g, T (.tup [.nils, .int .i64 2]) (m ++ g)) := ⟨fun g => by rw [hT'.down]; exact .inr ⟨hk, rfl, _, rfl⟩⟩
  clear hk;refine am ?_;exact t.down _
 have hk' := zU hk;clear hk;refine am ?_;refine (zf6 hh.down.h.app).mono ?_;rintro _ _ (⟨_, g2, v, rfl, rfl, hG⟩ | ⟨hn, _⟩)
 case inr => exact absurd hk'.down.1 hn
 have vc := hG.cell;obtain ⟨hcs, hcl⟩ := zih hk'.down.1 hh.down.h.wa;obtain ⟨l, el⟩ : ∃ l, X.H.cs = l := ⟨_, rfl⟩
 have el2 : zbx (obs X.H X.H.ns) = l := el;rw [el2] at hG;rw [el] at hcl;have el' := zU el;have hR : ∀ G, Rd (m ++ .cells true [miV X aw uw sv mv qv hv] :: (g1 ++ (g2 ++ G))) v 1 l.length (fun i => [.int .u64 (nx l i : Nat)]) := fun G => .inl (by
  rw [<- zpu];exact hG.ps.on)
 have hR' := zU hR;obtain ⟨b1, b2, b3, b4, _⟩ := (hR []).ar;have b5 : ∀ G (i o : Nat) (k : Option Nat), i < l.length -> zad (m ++ .cells true [miV X aw uw sv mv qv hv] :: (g1 ++ (g2 ++ G))) k (atp v i o) = part [.int .u64 (nx l i : Nat)] o k := fun G i o k hi => (hR G).ar.2.2.2.2 i o k hi
 clear hcs el el2 hG hR;refine am ?_;refine range (α := V) l.length (fun u => [(4, u), (18, v), (1, .ptr m.length 0 0)]) (fun k u M => ∃ g, M = m ++ .cells true [miV X aw uw sv mv qv hv] :: (g1 ++ (g2 ++ g)) /\ Gw (m.length + (g1.length + g2.length + 1)) g u 1 (zD ((l.take k).filter fun a => bit X.mw (a / 2)))) .nils ⟨[], by simp only [List.append_nil], .inl ⟨rfl, rfl⟩⟩ ?_ ?_
 ·rintro k u fr _ hk F ⟨g, rfl, hG⟩
  have et := zU (zuE (p := fun a => bit X.mw (a / 2)) hk);have hlen : ((l.take k).filter fun a => bit X.mw (a / 2)).length <= 2048 := by
   have := List.length_filter_le (fun a => bit X.mw (a / 2)) (l.take k);simp only [List.length_take] at this; omega
  have uc := hG.cell;obtain ⟨x, exq⟩ : ∃ x, nx l k = x := ⟨_, rfl⟩
  have hx : x ∈ X.H.cs := by rw [el'.down, <- exq]; exact zbJ hk
  obtain ⟨hx1, hx2⟩ := zdY hk'.down.1 hh.down.h.wa hx;have lk := b5 g k 0 none hk;rw [exq] at lk et;obtain ⟨els, he⟩ : ∃ els, zD ((l.take k).filter fun a => bit X.mw (a / 2)) = els := ⟨_, rfl⟩
  have hl : els.length <= 2048 := by rw [<- he, List.length_map]; exact hlen
  rw [he] at hG;have he' := zU he;have hb := zU (fun G => zmw (c0 := aw) (c1 := .int .i64 X.H.us.N) (c2 := uw) (c3 := sv) (c5 := qv) (c6 := hv) (hh.down.k.app (g := G)) hh.down.wk hx1 (by rw [hk'.down.2.2.2.1]; exact hx2) cc.down);have hG' := zU hG;have exq' := zU exq;clear he hlen hx hx1 hx2 exq hG;refine am ?_;rw [exq'.down];refine (hb.down _).mono ?_;rintro _ _ ⟨rfl, ⟨g3, rfl⟩⟩;cases hc : bit X.mw (x / 2) with
  | false =>
   refine am ?_;refine ⟨u, zg, _, rfl, ?_⟩;rw [et.down, if_neg (by rw [hc]; decide), List.append_nil, he'.down];exact hG'.down.app
  | true =>
   obtain ⟨g', l1, _, hp⟩ := Gw.push (A := m ++ .cells true [miV X aw uw sv mv qv hv] :: (g1 ++ g2)) (zero := [.int .u64 0]) (bytes := 8) (hG'.down.app (G := g3)).cast rfl (by simp [roomy]; omega);simp only [List.append_assoc, List.cons_append, List.length_append, List.length_cons] at hp;have l1' := zU l1;clear l1 hl;refine am ?_;refine ⟨.slice (m.length + (g1.length + g2.length + 1) + (g.length + g3.length + 1)) 0 (els.length + 1) (els.length + 1) false 1, zg, _, rfl, ?_⟩;rw [et.down, if_pos hc, zD, List.map_append, <- zD, he'.down];refine .inr ⟨_, (by rw [List.length_append]; rfl), ?_⟩;have l2 := l1'.down;rw [List.length_append] at l2;rw [<- l2, zh];rfl
 ·rintro u fr _ F ⟨g, rfl, hG⟩
  rw [List.take_length] at hG;have uc := hG.cell;have t : PLift (T (.tup [u, .int .i64 0]) (m ++ .cells true [miV X aw uw sv mv qv hv] :: (g1 ++ (g2 ++ g)))) := ⟨by
   rw [hT'.down];refine .inl ⟨hk'.down, _, u, rfl, rfl, ?_⟩;have e : zet X = l.filter (fun a => bit X.mw (a / 2)) := by unfold zet; rw [el'.down]
   rw [e];exact hG.ps.to⟩
  clear hG;refine am ?_;exact t.down
theorem zrv {X : MiA} {r r' : V} (h : zrt X r) (h' : zrt X r') : r = r' := by
 rcases h with ⟨a, e⟩ | ⟨a, e⟩ <;> rcases h' with ⟨a', e'⟩ | ⟨a', e'⟩ <;> first | exact e.trans e'.symm | exact absurd a a' | exact absurd a' a
theorem zzr {X : MiA} {r : V} (h : zrt X r) : ∃ b e, r = .tup [.bool b, .int .i64 e] := by
 rcases h with ⟨_, e⟩ | ⟨_, e⟩ <;> exact ⟨_, _, e⟩
theorem zwV {P : Prop} {r r' : V} (h : okE P r) (h' : okE P r') : r = r' := by
 rcases h with ⟨a, e⟩ | ⟨a, e⟩ <;> rcases h' with ⟨a', e'⟩ | ⟨a', e'⟩ <;> first | exact e.trans e'.symm | exact absurd a a' | exact absurd a' a
theorem zAS {P : Prop} {r : V} (h : okE P r) : ∃ e, r = .int .i64 e := by
 rcases h with ⟨_, e⟩ | ⟨_, e⟩ <;> exact ⟨_, e⟩
def mkS (X : MiA) (l : List Nat) (e : Int) : Prop := (X.ok /\ l = zet X /\ e = 0) \/ (¬ X.ok /\ l = [] /\ e = 2)
theorem zAb {X : MiA} {l l' : List Nat} {e e' : Int} (h : mkS X l e) (h' : mkS X l' e') : l = l' /\ e = e' := by
 rcases h with ⟨a, rfl, rfl⟩ | ⟨a, rfl, rfl⟩ <;> rcases h' with ⟨a', rfl, rfl⟩ | ⟨a', rfl, rfl⟩ <;> first | exact ⟨rfl, rfl⟩ | exact absurd a a' | exact absurd a' a
theorem ziw.all {m : Mem} {X : MiA} {r : V} {m' : Mem} (h : ziw m X r m') : ∃ v e g l, m' = m ++ g /\ r = .tup [v, .int .i64 e] /\ v.isCell = true /\ mkS X l e /\ Ps m.length g (fun M => Rd M v 1 l.length (zx (nx l))) := by
 rcases h with ⟨hk, g, v, rfl, rfl, hS⟩ | ⟨hk, rfl, g, rfl⟩
 ·obtain ⟨M, hM⟩ := hS.ex
  exact ⟨v, 0, g, _, rfl, rfl, hM.cell, .inl ⟨hk, rfl, rfl⟩, hS.imp fun M h => .inl (by rw [zpu] at h; exact h)⟩
 ·exact ⟨.nils, 2, g, [], rfl, rfl, rfl, .inr ⟨hk, rfl, rfl⟩, fun M _ => .inl ⟨rfl, rfl⟩⟩
theorem zdo.cells {m : Mem} {aw uw sv mv qv hv : V} {va vm vs : Nat -> V} {X : MiA} (h : zdo m aw uw sv mv qv hv va vm vs X) : aw.isCell = true /\ uw.isCell = true /\ sv.isCell = true /\ mv.isCell = true /\ qv.isCell = true /\ hv.isCell = true := ⟨h.h.a.ar.2.1, h.h.u.ar.2.1, h.h.s.s.ar.2.1, h.k.ar.2.1, h.q.s.ar.2.1, h.d.ar.2.1⟩
def MiX (M : Mem) (aw uw sv mv qv hv : V) (X : MiA) : Prop := ∃ va vm vs, zdo M aw uw sv mv qv hv va vm vs X
theorem zmO {m : Mem} {aw uw sv mv qv hv : V} {va vm vs : Nat -> V} {X : MiA} (h : zdo m aw uw sv mv qv hv va vm vs X) {w : Int} : C Stl zeE [.agg (miV X aw uw sv mv qv hv), .int .i64 w] m (fun r _ => r = .bool true) := by
 obtain ⟨A1, A2, A3, A4, A5, A6⟩ := h.cells;have hh := zU h;clear h;refine fn rfl ?_;refine (toL (zpo hh.down.app)).mono ?_;rintro _ _ ⟨aw1, uw1, sv1, mv1, qv1, hv1, rfl, hF⟩;obtain ⟨G1, rfl, p1⟩ := hF.rd hh.down.b;obtain ⟨_, _, _, _, q1⟩ := p1.ex;obtain ⟨B1, B2, B3, B4, B5, B6⟩ := q1.cells;have r1 : PLift (∀ R, MiX (m ++ .cells true [miV X aw uw sv mv qv hv] :: (G1 ++ R)) aw1 uw1 sv1 mv1 qv1 hv1 X) := ⟨fun R => p1.on⟩
 clear hF p1 q1;refine am ?_;obtain ⟨_, _, _, k1⟩ := r1.down [.cells true [miV X aw1 uw1 sv1 mv1 qv1 hv1]];refine (toL (zjL k1)).mono ?_;rintro _ _ ⟨Z, l, hZ, rfl, aw2, uw2, sv2, mv2, qv2, hv2, G2, rfl, rfl, p2⟩;obtain ⟨_, _, _, _, q2⟩ := p2.ex;obtain ⟨C1, C2, C3, C4, C5, C6⟩ := q2.cells;have r2 : PLift (∀ R, MiX (m ++ .cells true [miV X aw uw sv mv qv hv] :: (G1 ++ .cells true [miV X aw1 uw1 sv1 mv1 qv1 hv1] :: (G2 ++ R))) aw2 uw2 sv2 mv2 qv2 hv2 Z.1) := ⟨fun R => p2.on⟩
 have hZ' := zU hZ;clear k1 p2 q2 hZ;refine am ?_;refine (toL (zvS hh.down.app)).mono ?_;rintro _ _ ⟨Z2, l, hZ2, rfl, aw3, uw3, sv3, mv3, qv3, hv3, G3, rfl, rfl, p3⟩;obtain rfl := zxT hZ'.down hZ2;obtain ⟨_, _, _, _, q3⟩ := p3.ex;obtain ⟨D1, D2, D3, D4, D5, D6⟩ := q3.cells;have r3 : PLift (∀ R, MiX (m ++ .cells true [miV X aw uw sv mv qv hv] :: (G1 ++ .cells true [miV X aw1 uw1 sv1 mv1 qv1 hv1] :: (G2 ++ .cells true [miV Z.1 aw2 uw2 sv2 mv2 qv2 hv2] :: (G3 ++ R)))) aw3 uw3 sv3 mv3 qv3 hv3 Z.1) := ⟨fun R => p3.on⟩
 clear p3 q3 hZ2 hZ';refine am ?_;obtain ⟨_, _, _, k1⟩ := r1.down (.cells true [miV X aw1 uw1 sv1 mv1 qv1 hv1] :: (G2 ++ .cells true [miV Z.1 aw2 uw2 sv2 mv2 qv2 hv2] :: (G3 ++ [.cells true [miV Z.1 aw3 uw3 sv3 mv3 qv3 hv3]])));refine (toL (zpA k1)).mono ?_;rintro _ _ ⟨hd, G4, rfl⟩;obtain ⟨db, de, rfl⟩ := zzr hd;have hd' := zU hd;clear k1 hd;refine am ?_;refine (toL (zvQ hh.down.app)).mono ?_;rintro _ _ ⟨hd, G5, rfl⟩;obtain rfl := zrv hd'.down hd;clear hd' hd;refine am ?_;obtain ⟨_, _, _, k1⟩ := r1.down (.cells true [miV X aw1 uw1 sv1 mv1 qv1 hv1] :: (G2 ++ .cells true [miV Z.1 aw2 uw2 sv2 mv2 qv2 hv2] :: (G3 ++ .cells true [miV Z.1 aw3 uw3 sv3 mv3 qv3 hv3] :: (G4 ++ G5))));refine (toL (zkZ k1)).mono ?_;rintro _ _ hm;obtain ⟨v1, e1, G6, l1, rfl, rfl, vc1, hm1, p6⟩ := hm.all;have hm1' := zU hm1;have s6 : PLift (∀ R, Rd (m ++ .cells true [miV X aw uw sv mv qv hv] :: (G1 ++ .cells true [miV X aw1 uw1 sv1 mv1 qv1 hv1] :: (G2 ++ .cells true [miV Z.1 aw2 uw2 sv2 mv2 qv2 hv2] :: (G3 ++ .cells true [miV Z.1 aw3 uw3 sv3 mv3 qv3 hv3] :: (G4 ++ (G5 ++ (G6 ++ R))))))) v1 1 l1.length (zx (nx l1))) := ⟨fun R => p6.on⟩
 clear k1 hm hm1 p6;refine am ?_;refine (toL (zsI hh.down.app)).mono ?_;rintro _ _ hm;obtain ⟨v2, e2, G7, l2, rfl, rfl, vc2, hm2, p7⟩ := hm.all;obtain ⟨rfl, rfl⟩ := zAb hm1'.down hm2;have s7 : PLift (∀ R, Rd (m ++ .cells true [miV X aw uw sv mv qv hv] :: (G1 ++ .cells true [miV X aw1 uw1 sv1 mv1 qv1 hv1] :: (G2 ++ .cells true [miV Z.1 aw2 uw2 sv2 mv2 qv2 hv2] :: (G3 ++ .cells true [miV Z.1 aw3 uw3 sv3 mv3 qv3 hv3] :: (G4 ++ (G5 ++ (G6 ++ (G7 ++ R)))))))) v2 1 l1.length (zx (nx l1))) := ⟨fun R => p7.on⟩
 have hl1 : PLift (l1.length < 4611686018427387904) := ⟨by
  rcases hm1'.down with ⟨hk, rfl, _⟩ | ⟨_, rfl, _⟩
  ·have := (zih hk.1 hh.down.h.wa).2
   have := List.length_filter_le (fun a => bit X.mw (a / 2)) X.H.cs;unfold zet;omega
  ·simp⟩
 clear hm hm1' hm2 p7;refine am ?_;refine zvd.mono ?_;rintro _ _ ⟨rfl, rfl⟩;refine am ?_;obtain ⟨_, _, _, k2⟩ := r2.down (.cells true [miV Z.1 aw2 uw2 sv2 mv2 qv2 hv2] :: (G3 ++ .cells true [miV Z.1 aw3 uw3 sv3 mv3 qv3 hv3] :: (G4 ++ (G5 ++ (G6 ++ G7)))));obtain ⟨_, _, _, k3⟩ := r3.down (.cells true [miV Z.1 aw3 uw3 sv3 mv3 qv3 hv3] :: (G4 ++ (G5 ++ (G6 ++ G7))));refine (toL (zpp k2 k3)).mono ?_;rintro _ _ ⟨rfl, G8, rfl⟩;clear k2 k3;refine am ?_;refine (toL (zjo (s6.down (G7 ++ G8)) (s7.down G8) hl1.down)).mono ?_;rintro _ _ ⟨rfl, rfl⟩;rw [decide_eq_true ⟨rfl, fun _ _ => rfl⟩];obtain ⟨_, _, _, k1⟩ := r1.down (.cells true [miV X aw1 uw1 sv1 mv1 qv1 hv1] :: (G2 ++ .cells true [miV Z.1 aw2 uw2 sv2 mv2 qv2 hv2] :: (G3 ++ .cells true [miV Z.1 aw3 uw3 sv3 mv3 qv3 hv3] :: (G4 ++ (G5 ++ (G6 ++ (G7 ++ G8)))))));have b1 := hh.down.ba;have b2 := hh.down.bu;have b3 := hh.down.bs;have b4 := hh.down.bm;have b5 := hh.down.bq;have b6 := hh.down.bh;have k1' := zU k1;clear k1;refine am ?_;refine (toL (zdZ k1'.down)).mono ?_;rintro _ _ ⟨hc, G9, rfl⟩;obtain ⟨ce, rfl⟩ := zAS hc;have hc' := zU hc;clear hc k1';refine am ?_;refine (toL (zfm hh.down.app)).mono ?_;rintro _ _ ⟨hc, G10, rfl⟩;obtain rfl := zwV hc'.down hc;clear hc hc';obtain ⟨_, _, _, k1⟩ := r1.down (.cells true [miV X aw1 uw1 sv1 mv1 qv1 hv1] :: (G2 ++ .cells true [miV Z.1 aw2 uw2 sv2 mv2 qv2 hv2] :: (G3 ++ .cells true [miV Z.1 aw3 uw3 sv3 mv3 qv3 hv3] :: (G4 ++ (G5 ++ (G6 ++ (G7 ++ (G8 ++ (G9 ++ G10)))))))));have k1' := zU k1;clear k1;refine am ?_;refine (toL (zpp k1'.down hh.down.app)).mono ?_;rintro _ _ ⟨rfl, G11, rfl⟩;exact zg
def zbN (c : Int) : List (List Nat) := List.replicate c.toNat []
theorem zd0 {c : Int} : (zbN c).flatten = [] := by
 unfold zbN
 induction c.toNat with
 | zero => rfl
 | succ n ih => rw [List.replicate_succ, List.flatten_cons, ih]; rfl
theorem zxU {c : Int} {i : Nat} : qat (zbN c) i = [] := by
 unfold qat zbN;rw [List.getD_eq_getElem?_getD]
 by_cases h : i < c.toNat
 ·rw [List.getElem?_replicate_of_lt h]; rfl
 ·rw [List.getElem?_eq_none (by simp; omega)]; rfl
def zzs (m : Mem) (c : Int) (r : V) (m' : Mem) : Prop := (1 <= c /\ c <= 4 /\ ∃ g v, m' = m ++ g /\ r = .tup [.agg [v], .int .i64 0] /\ v.isCell = true /\ V.beq v v = true /\ Ps m.length g (fun M => Qs M v (zbN c))) \/ (¬ (1 <= c /\ c <= 4) /\ r = .tup [.agg [.nils], .int .i64 1] /\ Grow m m')
theorem zvT {m : Mem} {c : Int} : C S zlR [.int .i64 c] m (zzs m c) := by
 obtain ⟨T, hT⟩ : ∃ T : V -> Mem -> Prop, T = zzs m c := ⟨_, rfl⟩
 rw [<- hT];have bad : ¬ (1 <= c /\ c <= 4) -> PLift (∀ g, T (.tup [.agg [.nils], .int .i64 1]) (m ++ g)) := fun h => ⟨fun g => by rw [hT]; exact .inr ⟨h, rfl, _, rfl⟩⟩
 by_cases a1 : c < 1
 ·have c1 : (c < 1) = True := eq_true a1
  have b := bad (by omega);clear a1 hT bad;refine fn rfl ?_;exact b.down _
 by_cases a2 : 4 < c
 ·have c1 : (c < 1) = False := eq_false a1
  have c2 : (4 < c) = True := eq_true a2;have b := bad (by omega);clear a1 a2 hT bad;refine fn rfl ?_;exact b.down _
 have c1 : (c < 1) = False := eq_false a1;have c2 : (4 < c) = False := eq_false a2;obtain ⟨n, rfl⟩ : ∃ n : Nat, c = (n : Int) := ⟨c.toNat, by omega⟩
 have hz : ((0 : Int) <= (n : Int)) = True := eq_true (by omega);have hr : ((n : Int) <= (n : Int)) = True := eq_true (by omega);have rm : roomy n 24 = true := by simp [roomy]; omega
 have t : PLift (∀ Y, T (.tup [.agg [.slice (m.length + 1) 0 n n true 1], .int .i64 0]) (m ++ [Y, .cells true (List.replicate n [.nils])])) := ⟨fun Y => by
  rw [hT];refine .inl ⟨by omega, by omega, _, _, rfl, rfl, rfl, (by simp [V.beq]), fun M hM => ⟨fun _ => .nils, .inl ?_, fun i hi => ?_⟩⟩
  ·have hb : M[m.length + 1]? = some (.cells true (List.replicate n [V.nils])) := hM 1 _ rfl
   have := Sl.mk (cap := n) (z := 1) (ex := true) hb;have e : (List.range (zbN (n : Int)).length).map (fun _ => [V.nils]) = List.replicate n [V.nils] := by simp [zbN, List.map_const']
   rw [e]
   simpa using this
  ·rw [zxU]
   exact .inl ⟨rfl, rfl⟩⟩
 clear a1 a2 bad hT;refine fn rfl ?_;exact t.down _
theorem zlC {o : ObA} : ∀ {l : List ObA}, o ∈ l -> o.cur = true -> o.addr ∈ zbx l
 | [], h, _ => by cases h
 | x :: l, h, hc => by
  unfold zbx;rcases List.mem_cons.1 h with rfl | h
  ·rw [if_pos hc]; exact List.mem_cons_self
  ·split
   ·exact List.mem_cons_of_mem _ (zlC h hc)
   ·exact zlC h hc
theorem zAT {H : zm} {a : Nat} (h0 : a ≠ 0) (h : a ∉ H.cs) : atV (obs H H.ns) a = .tup [.agg [.int .i64 0, .int .u64 0], .int .i64 10] := by
 unfold atV;rw [if_neg h0];cases hf : fnd (obs H H.ns) a with
 | none => rfl
 | some o =>
  refine absurd ?_ h;have h1 := List.mem_of_find?_eq_some hf;have h2 := List.find?_some hf;simp only [Bool.and_eq_true, beq_iff_eq] at h2;rw [<- h2.1];exact zlC h1 h2.2
def zqi (X : MiA) (r : Nat) : MiA := if r ≠ 0 /\ bit X.mw (r / 2) = false then { X with mw := zcN X.mw (r / 2) true, qs := X.qs.set 0 (qat X.qs 0 ++ [r]) } else X
def zsJ (X : MiA) (rs : List Nat) : Nat -> MiA
 | 0 => X
 | k + 1 => zqi (zsJ X rs k) (nx rs k)
def zAq (X : MiA) : Prop := ∀ a, a ∈ X.qs.flatten -> bit X.mw (a / 2) = true
structure Mkg (X Y : MiA) : Prop where
 ok : Y.ok
 q : zAq Y
 wk : w64 Y.nm Y.mw
 eH : Y.H = X.H
 en : Y.nm = X.nm
 eh : Y.hs = X.hs
theorem zuF {X : MiA} (h : X.ok) (hq : zAq X) (wa : w64 X.H.na X.H.a) {r : Nat} (h0 : r ≠ 0) (hb : bit X.mw (r / 2) = false) (hr : r ∈ X.H.cs) : (zaN X.qs 0 r).2 = 0 := by
 have k := h.2.1;have hn : r ∉ X.qs.flatten := fun e => by have := hq r e; rw [hb] at this; cases this
 have hl := zla k.2.2.2.1 h.2.2.2.2.2.2.1;have hc := (zih h.1 wa).2;have := k.1;unfold zaN;rw [if_neg (fun e => e k), if_neg (fun e => e (by omega)), if_neg h0, if_neg hn, if_neg (by omega)]
theorem Mkg.one {X Y : MiA} (h : Mkg X Y) (wa : w64 Y.H.na Y.H.a) {r : Nat} (hr : r ≠ 0 -> r ∈ Y.H.cs) : Mkg X (zqi Y r) := by
 unfold zqi
 split
 case isFalse => exact h
 rename_i hc
 obtain ⟨h0, hb⟩ := hc;have hr := hr h0;have hp := zuF h.ok h.q wa h0 hb hr;have hl : 0 < Y.qs.length := h.ok.2.1.1;obtain ⟨_, p2, p3, p4, p5⟩ := zpr h.ok.2.1 (w := 0) hl hp;obtain ⟨pl1, pl2⟩ := zdY h.ok.1 wa hr;have hn := h.ok.2.2.2.1;have hm := zrq h.ok.1 wa h.wk hn h.ok.2.2.2.2.2.1 hr;have o1 := zAn h.ok hm;have o2 := zzo o1 p4 (by simp) fun a ha => by
  rcases (p5 a).1 ha with rfl | ha
  ·exact hr
  ·exact h.ok.2.2.2.2.2.2.1 a ha
 refine ⟨o2, fun a ha => ?_, zhH h.wk, h.eH, h.en, h.eh⟩;show bit (zcN Y.mw (r / 2) true) (a / 2) = true;have ha' := (p5 a).1 ha;rw [zfP h.wk (by rw [hn]; omega)]
 by_cases e : a / 2 = r / 2
 ·rw [if_pos e]
 ·rw [if_neg e]
  rcases ha' with rfl | ha'
  ·exact absurd rfl e
  ·exact h.q a ha'
theorem Mkg.add {X : MiA} (h : Mkg X X) (wa : w64 X.H.na X.H.a) {rs : List Nat} (hr : ∀ r, r ∈ rs -> r ≠ 0 -> r ∈ X.H.cs) : ∀ k, k <= rs.length -> Mkg X (zsJ X rs k)
 | 0, _ => h
 | k + 1, hk => by
  have ih := Mkg.add h wa hr k (by omega);exact ih.one (by rw [ih.eH]; exact wa) (by rw [ih.eH]; exact hr _ (zbJ (by omega)))
def zgU (H : zm) (c : Int) : MiA := ⟨H, nwm H.na, fun _ => 0, zbN c, List.replicate c.toNat hand0⟩
theorem zwW {H : zm} {c : Int} (hR : H.right) (hs : H.swept) (h1 : 1 <= c) (h4 : c <= 4) : Mkg (zgU H c) (zgU H c) := by
 have hl : (zbN c).length = c.toNat := by simp [zbN]
 refine ⟨⟨hR, ⟨?_, ?_, ?_, ?_, ?_⟩, ?_, rfl, hs, ?_, ?_, ?_⟩, ?_, fun _ _ => by show (0 : Nat) < _; decide, rfl, rfl, rfl⟩
 ·show 1 <= (zbN c).length; omega
 ·show (zbN c).length <= 4; omega
 ·show (zbN c).flatten.length <= _; rw [zd0]; decide
 ·show (zbN c).flatten.Nodup; rw [zd0]; exact List.nodup_nil
 ·show 0 ∉ (zbN c).flatten; rw [zd0]; simp
 ·show (List.replicate c.toNat hand0).length = (zbN c).length; rw [hl]; simp
 ·intro i hi hb
  have : bit (fun _ => 0) i = true := hb;unfold bit at this;simp at this
 ·intro a ha
  have : a ∈ (zbN c).flatten := ha;rw [zd0] at this;cases this
 ·intro i hi
  refine .inl ?_;have : hat (List.replicate c.toNat hand0) i = hand0 := by
   unfold hat;rw [List.getD_eq_getElem?_getD]
   by_cases h : i < c.toNat
   ·rw [List.getElem?_replicate_of_lt h]; rfl
   ·rw [List.getElem?_eq_none (by simp; omega)]; rfl
  show (hat (List.replicate c.toNat hand0) i).pc = 0 /\ hat (List.replicate c.toNat hand0) i = hand0;rw [this];exact ⟨rfl, rfl⟩
 ·intro a ha
  have : a ∈ (zbN c).flatten := ha;rw [zd0] at this;cases this
def ze0 (s : MiA × Nat × Nat) (w : Nat) : MiA × Nat × Nat := if (zI s.1 w).2.2 = 0 then ((zI s.1 w).1, s.2.1 + 1, s.2.2 + if (zI s.1 w).2.1 = 5 then 1 else 0) else s
theorem zxV {X : MiA} {w : Nat} (h : (zI X w).2.2 ≠ 0) : (zI X w).1 = X := by
 unfold zI at h ⊢
 (repeat' split) <;> first | rfl | (exfalso; revert h; simp_all; done) | skip
 all_goals first | rfl | (simp_all; done) | skip
structure Ry (lo : Nat) (M : Mem) (P T : Nat) (aw uw sv qv : V) (bm bh cm ch : Nat) (em eh : Bool) (Fh Fq : Nat -> Prop) (s : MiA × Nat × Nat) : Prop where
 k : zgb lo M P aw uw sv qv bm bh cm ch em eh Fh Fq s.1
 t : M[T]? = some (.cells true [[.int .i64 (s.2.1 : Nat), .int .i64 (s.2.2 : Nat)]])
 n : T ≠ P /\ T ≠ bm /\ T ≠ bh /\ ¬ Fh T /\ ¬ Fq T
theorem zgb.to {lo : Nat} {M M2 : Mem} {P : Nat} {aw uw sv qv : V} {bm bh cm ch : Nat} {em eh : Bool} {Fh Fq : Nat -> Prop} {X : MiA} (h : zgb lo M P aw uw sv qv bm bh cm ch em eh Fh Fq X) (k : ∀ (c : Nat) (y : Blk), (c = P \/ c = bm \/ c = bh \/ Fh c \/ Fq c) -> M[c]? = some y -> M2[c]? = some y) : zgb lo M2 P aw uw sv qv bm bh cm ch em eh Fh Fq X :=
 ⟨⟨h.o.h.to fun c y hc hy => k c y (.inr (.inr (.inr (.inl hc)))) hy, h.o.q.to fun c y hc hy => k c y (.inr (.inr (.inr (.inr hc)))) hy, k _ _ (.inr (.inl rfl)) h.o.m, k _ _ (.inr (.inr (.inl rfl))) h.o.d, h.o.l, h.o.f, h.o.fl, h.o.c, h.o.b, h.o.w⟩, k _ _ (.inl rfl) h.p, h.n⟩
theorem zuG {lo : Nat} {M : Mem} {P T : Nat} {aw uw sv qv : V} {bm bh cm ch : Nat} {em eh : Bool} {Fh Fq : Nat -> Prop} {s : MiA × Nat × Nat} (h : Ry lo M P T aw uw sv qv bm bh cm ch em eh Fh Fq s) (hok : s.1.ok) {w : Nat} (hw : w < s.1.hs.length) (hn : s.2.1 < 4611686018427387904) (hl : s.2.2 <= s.2.1) :
  C S zb0 [.ptr T 0 0, .ptr P 0 0, .int .i64 (w : Nat)] M (fun r M' => r = .bool (decide ((zI s.1 w).2.2 = 0)) /\ M.length <= M'.length /\ (∀ (c : Nat) (y : Blk), (c ≠ P /\ c ≠ bm /\ c ≠ bh /\ c ≠ T) -> M[c]? = some y -> M'[c]? = some y) /\ ∃ qv' Fq', Ry lo M' P T aw uw sv qv' bm bh cm ch em eh Fh Fq' (ze0 s w)) := by
 obtain ⟨X, a, b⟩ := s;have hk := h.k;have ht := h.t;have lT := (List.getElem?_eq_some_iff.1 ht).1;have hh := zU h;have hok' := zU hok;dsimp only at hk ht hok hw hn hl;have w1 : IntKind.i64.wrap ((a : Int) + 1) = ((a + 1 : Nat) : Int) := by rw [wrap_i64] <;> omega
 have w2 : IntKind.i64.wrap ((b : Int) + 1) = ((b + 1 : Nat) : Int) := by rw [wrap_i64] <;> omega
 obtain ⟨Q, hQ⟩ : ∃ Q : V -> Mem -> Prop, Q = fun r M' => r = .bool (decide ((zI X w).2.2 = 0)) /\ M.length <= M'.length /\ (∀ (c : Nat) (y : Blk), (c ≠ P /\ c ≠ bm /\ c ≠ bh /\ c ≠ T) -> M[c]? = some y -> M'[c]? = some y) /\ ∃ qv' Fq', Ry lo M' P T aw uw sv qv' bm bh cm ch em eh Fh Fq' (ze0 (X, a, b) w) := ⟨_, rfl⟩
 show C S zb0 _ M (fun r M' => r = .bool (decide ((zI X w).2.2 = 0)) /\ M.length <= M'.length /\ (∀ (c : Nat) (y : Blk), (c ≠ P /\ c ≠ bm /\ c ≠ bh /\ c ≠ T) -> M[c]? = some y -> M'[c]? = some y) /\ ∃ qv' Fq', Ry lo M' P T aw uw sv qv' bm bh cm ch em eh Fh Fq' (ze0 (X, a, b) w));rw [<- hQ];have hQ' := zU hQ;obtain ⟨Z, eZ⟩ : ∃ Z, zI X w = Z := ⟨_, rfl⟩
 have SM := zpt hk hok hw;rw [eZ] at SM;have eZ' := zU eZ;have SM' := zU SM;clear h hok hk SM hQ eZ;refine fn rfl ?_;refine SM'.down.mono ?_;rintro _ M1 ⟨rfl, l1, k1, qv', Fq', hf, hM⟩;have tT := k1 T _ ⟨hh.down.n.1, hh.down.n.2.1, hh.down.n.2.2.1⟩ ht;have nT : ¬ Fq' T := fun e => by
  rcases hf T e with e | e
  ·exact hh.down.n.2.2.2.2 e
  ·omega
 have hM' := zU hM;have k1' := zU k1;have l1' := zU l1;have nT' := zU nT;clear hf hM k1 l1 nT
 by_cases e0 : Z.2.2 = 0
 ·have c0 : (Z.2.2 = 0) = True := eq_true e0
  have s1 : ∀ Y, (M1.set T Y)[T]? = some Y := fun Y => zF (by rw [tT]; rfl)
  have s2 := @set_set;have fin : PLift (∀ k : Nat, (k = b + if Z.2.1 = 5 then 1 else 0) -> Q (.bool true) (M1.set T (.cells true [[.int .i64 ((a + 1 : Nat) : Int), .int .i64 (k : Nat)]]))) := ⟨fun k hk => by
   rw [hQ'.down];have et : ze0 (X, a, b) w = (Z.1, a + 1, k) := by
    unfold ze0;rw [eZ'.down, if_pos e0, hk]
   refine ⟨by rw [eZ'.down, decide_eq_true e0], by rw [List.length_set]; exact l1'.down, fun c y hc hy => zi (Ne.symm hc.2.2.2) (k1'.down c y ⟨hc.1, hc.2.1, hc.2.2.1⟩ hy), qv', Fq', ?_⟩;rw [et];obtain ⟨n1, n2, n3, n4, n5⟩ := hh.down.n;refine ⟨hM'.down.to fun c y hc hy => zi (fun e => ?_) hy, zZ tT, n1, n2, n3, n4, nT'.down⟩;subst e;rcases hc with hc | hc | hc | hc | hc
   ·exact n1 hc
   ·exact n2 hc
   ·exact n3 hc
   ·exact n4 hc
   ·exact nT'.down hc⟩
  by_cases e5 : Z.2.1 = 5
  ·have c5 : ((Z.2.1 : Int) = 5) = True := eq_true (by omega)
   have fin' := zU (fin.down (b + 1) (by rw [if_pos e5]));clear e0 e5 fin;refine am ?_;exact fin'.down
  ·have c5 : ((Z.2.1 : Int) = 5) = False := eq_false (by omega)
   have fin' := zU (fin.down b (by rw [if_neg e5]; rfl));clear e0 e5 fin;refine am ?_;exact fin'.down
 ·have c0 : (Z.2.2 = 0) = False := eq_false e0
  have fin : PLift (Q (.bool false) M1) := ⟨by
   rw [hQ'.down];have et : ze0 (X, a, b) w = (X, a, b) := by
    unfold ze0;rw [eZ'.down, if_neg e0]
   have e1 : Z.1 = X := by rw [<- eZ'.down]; exact zxV (by rw [eZ'.down]; exact e0)
   refine ⟨by rw [eZ'.down, decide_eq_false e0], l1'.down, fun c y hc hy => k1'.down c y ⟨hc.1, hc.2.1, hc.2.2.1⟩ hy, qv', Fq', ?_⟩;rw [et];have hM := hM'.down;rw [e1] at hM;obtain ⟨n1, n2, n3, n4, n5⟩ := hh.down.n;exact ⟨hM, tT, n1, n2, n3, n4, nT'.down⟩⟩
  clear e0;refine am ?_;exact fin.down
end Go.AM.G
