/- The seat's table is sound; a heap that was handed in, read. -/
import Derived.Test.YtkimcedmfnoeoaaGreatDoorRows
import Derived.Test.YtkimcedmfnoeoaaGreatDoorHbE
import Derived.Test.YtkimcedmfnoeoaaGreatDoorHqA
import Derived.Test.YtkimcedmfnoeoaaGreatDoorAmRead
import Derived.Test.YtkimcedmfnoeoaaGreatDoorAmToldA
import Derived.WalkKit
import Derived.ProofKit
import Derived.OpenShut
import Derived.ChangeOld
import Derived.Below
import Derived.SizedLaws
import Derived.Deep.Strs
set_option linter.unusedVariables false
set_option linter.unusedSimpArgs false
set_option maxRecDepth 100000
namespace Go.Proofs.YtkimcedmfnoeoaaGreatDoor.HbF
open Go Go.AM Go.AM.G Go.RowKit
theorem sound0 (n : Nat) : SoundCall Tryz.prog (callN (fun f => tab.lookup f) X0 n) := callN_ok (Checked.mixed Tryz.checked) tableOk toldOk0 Xfr0 n
theorem lives_ok (m : Mem) : CallOk Tryz.prog n_law11_lives [] m (.bool true) m := by
 obtain ⟨n, v, m1, hc, rfl⟩ := Lv.lives_C
 exact closed_ok (sound0 n _ _ _ _ _ hc) m
theorem toldOk : ToldOk Tryz.prog X := by
 intro f t h call hc args m v m' e
 unfold X at h
 split at h
 ·rename_i hf
  cases h
  subst hf
  cases args with
  | nil => cases e; exact lives_ok m
  | cons a b => cases e
 ·exact toldOk0 f t h call hc args m v m' e
theorem sound (n : Nat) : SoundCall Tryz.prog (callN S.F S.X n) := callN_ok (Checked.mixed Tryz.checked) tableOk toldOk Xfr n
theorem law_calls {f : Nat} {args : List V} {m : Mem} (h : C S f args m (fun r _ => r = .bool true)) {φ : Phi} {W : World} {cargs : List Value} (hst : St φ m W) (hr : Rs φ args cargs) (hno : RO m) :
  Calls Tryz.prog f cargs.toArray W fun e W' => e = .returned (.bool true) ∧ Below W.heap.size W W' := by
 obtain ⟨n, v, m', h1, rfl⟩ := h
 refine ((sound n f args m _ m' h1).2 φ W cargs hst hr).mono ?_
 rintro e W' ⟨φ', cv, rfl, hs, hv⟩
 simp only [R] at hv
 subst hv
 exact ⟨rfl, hs.os, hs.tape, hs.output, hs.size, fun B hB => (hs.frame B hB hno.owned).1⟩
open Go.ChangeShapes Go.WideShapes Go.ChangeAt Go.RowKit
abbrev U := { x : Nat // x < 18446744073709551616 }
instance : Inhabited U := ⟨⟨0, by decide⟩⟩
def encU (x : U) : List V := [.int .u64 (x.1 : Int)]
theorem u64_elem {H : Type} {enc : TypeId × Value → H} {W : World} (k : Nat) (cs : List Value) (x : DataW H × List MemPlace) (hl : cs.length = 1) (e2 : DataW.trod enc Tryz.prog W 0 (fun _ => true) true k 47 cs = some x) : ∃ q : U, ∀ φ, Rs φ (encU q) cs := by
 obtain ⟨n, rfl, _, hw⟩ := DataW.trod_int Tryz.underlying47 e2
 simp [Lit.wf, IntKind.min, IntKind.max, IntKind.signed, IntKind.bits] at hw
 refine ⟨⟨n.toNat, by omega⟩, fun φ => ?_⟩
 have : ((n.toNat : Nat) : Int) = n := by omega
 unfold encU
 simp only [this]
 exact Rs.one R.int
def wOf (l : List U) (i : Nat) : Nat := ((l[i]?).map (·.1)).getD 0
theorem wOf_map (l : List U) : l.map encU = (List.range l.length).map (u64s (wOf l)) := by
 apply List.ext_getElem
 ·simp
 ·intro i h1 h2
  have hi : i < l.length := by simpa using h1
  simp [encU, wOf, hi]
theorem wOf_lt (l : List U) : w64 l.length (wOf l) := by
 intro i hi
 unfold wOf
 simp [hi]
 exact l[i].2
theorem read_words {H : Type} {enc : TypeId × Value → H} {W : World} {n : Nat} {c0 : Value} {y0 : DataW H × List MemPlace} (g : DataW.trod enc Tryz.prog W 0 (fun _ => true) true n 22 [c0] = some y0) {φ0 : Phi} {m0 : Mem} (hst : St φ0 m0 W) (hno : RO m0) :
  ∃ (u : V) (k : Nat) (w : Nat → Nat) (φ : Phi) (m : Mem), Ext φ0 φ ∧ Grow m0 m ∧ St φ m W ∧ RO m ∧ R φ u c0 ∧ Rd m u 1 k (u64s w) ∧ w64 k w ∧ capOk u ∧ (k = 0 ∨ ∃ D sp, y0.1 = .slice D sp ∧ D.length = k) := by
 obtain ⟨u, l, φ, m, a1, a2, a3, a4, a5, a6, a7, a8⟩ := read_inner' (e := 47) Tryz.underlying22 (z := 1) (by kernel_rfl) (by decide) g encU (fun x => ⟨rfl, by simp [encU, V.isCell]⟩) u64_elem hst hno
 refine ⟨u, l.length, wOf l, φ, m, a1, a2, a3, a4, a5, ?_, wOf_lt l, a8, ?_⟩
 ·rw [wOf_map] at a6
  rcases a6 with h | ⟨h, rfl⟩
  ·exact .inl h
  ·have : l = [] := by
    cases l with
    | nil => rfl
    | cons x l => simp at h
   subst this
   exact .inr ⟨rfl, rfl⟩
 ·rcases a7 with rfl | h
  ·exact .inl rfl
  ·exact .inr h
def SpQ {H : Type} (φ : Phi) (m : Mem) (ev : List V) (x : SpanA × (V × V)) (cs : List Value) (d : DataW H) : Prop := Rs φ ev cs ∧ ev = spanV x.1 x.2.1 x.2.2 ∧ x.2.1.isCell = true ∧ x.2.2.isCell = true ∧
 Rd m x.2.1 1 x.1.al.n (u64s x.1.al.w) ∧ Rd m x.2.2 1 x.1.mr.n (u64s x.1.mr.w) ∧ w64 x.1.al.n x.1.al.w ∧ w64 x.1.mr.n x.1.mr.w ∧
 (x.1.al.n = 0 ∨ ∃ d0 d1 d2 dn D sp dm d7, d = .agg [d0, d1, d2, .agg [dn, .slice D sp], dm, d7] ∧ D.length = x.1.al.n) ∧ (x.1.mr.n = 0 ∨ ∃ d0 d1 d2 da dn D sp d7, d = .agg [d0, d1, d2, da, .agg [dn, .slice D sp], d7] ∧ D.length = x.1.mr.n)
theorem SpQ.mono {H : Type} {φ φ' : Phi} {m m' : Mem} {ev : List V} {x : SpanA × (V × V)} {cs : List Value} {d : DataW H} (h : SpQ φ m ev x cs d) (hx : Ext φ φ') (hg : Grow m m') : SpQ φ' m' ev x cs d := by
 obtain ⟨a, b, c1, c2, e, f, r⟩ := h
 exact ⟨a.ext hx, b, c1, c2, e.grow hg, f.grow hg, r⟩
theorem trod_struct6 {H : Type} {enc : TypeId × Value → H} {P : Program} {w : World} {base : Nat} {spare : TypeId → Bool} {held : Bool} {t : TypeId} {f0 f1 f2 f3 f4 f5 : Field} {fuel : Nat} {cs : List Value} {x : DataW H × List MemPlace} (ht : P.underlying t = some (.struct #[f0, f1, f2, f3, f4, f5])) (h : DataW.trod enc P w base spare held fuel t cs = some x) :
  ∃ y0 y1 y2 y3 y4 y5 n, x.1 = .agg [y0.1, y1.1, y2.1, y3.1, y4.1, y5.1] ∧ DataW.trod enc P w base spare held n f0.type ((cs.drop f0.offset).take (P.cellsOf f0.type)) = some y0 ∧ DataW.trod enc P w base spare held n f1.type ((cs.drop f1.offset).take (P.cellsOf f1.type)) = some y1 ∧
   DataW.trod enc P w base spare held n f2.type ((cs.drop f2.offset).take (P.cellsOf f2.type)) = some y2 ∧ DataW.trod enc P w base spare held n f3.type ((cs.drop f3.offset).take (P.cellsOf f3.type)) = some y3 ∧
   DataW.trod enc P w base spare held n f4.type ((cs.drop f4.offset).take (P.cellsOf f4.type)) = some y4 ∧ DataW.trod enc P w base spare held n f5.type ((cs.drop f5.offset).take (P.cellsOf f5.type)) = some y5 := by
 obtain ⟨xs, n, _, rfl, _, hlen, hf⟩ := DataW.trod_struct ht h
 match xs, hlen with
 | [y0, y1, y2, y3, y4, y5], _ => exact ⟨y0, y1, y2, y3, y4, y5, n, by simp, by simpa using hf 0 f0 rfl, by simpa using hf 1 f1 rfl, by simpa using hf 2 f2 rfl, by simpa using hf 3 f3 rfl, by simpa using hf 4 f4 rfl, by simpa using hf 5 f5 rfl⟩
theorem read_span {H : Type} {enc : TypeId × Value → H} {W : World} {n : Nat} {cs : List Value} {x : DataW H × List MemPlace} (hl : cs.length = 8) (g : DataW.trod enc Tryz.prog W 0 (fun _ => true) true n 178 cs = some x) {φ0 : Phi} {m0 : Mem} (hst : St φ0 m0 W) (hno : RO m0) :
  ∃ (ev : List V) (s : SpanA × (V × V)) (φ : Phi) (m : Mem), Ext φ0 φ ∧ Grow m0 m ∧ St φ m W ∧ RO m ∧ SpQ φ m ev s cs x.1 := by
 have h3 : Tryz.prog.cellsOf 3 = 1 := by kernel_rfl
 have h4 : Tryz.prog.cellsOf 4 = 1 := by kernel_rfl
 have h26 : Tryz.prog.cellsOf 26 = 2 := by kernel_rfl
 have h22 : Tryz.prog.cellsOf 22 = 1 := by kernel_rfl
 obtain ⟨y0, y1, y2, y3, y4, y5, k, hx, f0, f1, f2, f3, f4, f5⟩ := trod_struct6 Tryz.underlying178 g
 simp only [h3, h4, h26] at f0 f1 f2 f3 f4 f5
 match cs, hl with
 | [b0, b1, b2, b3, b4, b5, b6, b7], _ =>
  have f0' : DataW.trod enc Tryz.prog W 0 (fun _ => true) true k 3 [b0] = some y0 := f0
  have f1' : DataW.trod enc Tryz.prog W 0 (fun _ => true) true k 3 [b1] = some y1 := f1
  have f2' : DataW.trod enc Tryz.prog W 0 (fun _ => true) true k 3 [b2] = some y2 := f2
  have f3' : DataW.trod enc Tryz.prog W 0 (fun _ => true) true k 26 [b3, b4] = some y3 := f3
  have f4' : DataW.trod enc Tryz.prog W 0 (fun _ => true) true k 26 [b5, b6] = some y4 := f4
  have f5' : DataW.trod enc Tryz.prog W 0 (fun _ => true) true k 4 [b7] = some y5 := f5
  obtain ⟨x0, e0, _, _⟩ := DataW.trod_int Tryz.underlying3 f0'
  obtain ⟨x1, e1, _, _⟩ := DataW.trod_int Tryz.underlying3 f1'
  obtain ⟨x2, e2, _, _⟩ := DataW.trod_int Tryz.underlying3 f2'
  obtain ⟨x5, e5, _⟩ := DataW.trod_bool Tryz.underlying4 f5'
  obtain ⟨p0, p1, k1, hy3, _, g0, g1⟩ := trod_struct2 Tryz.underlying26 f3'
  obtain ⟨q0, q1, k2, hy4, _, j0, j1⟩ := trod_struct2 Tryz.underlying26 f4'
  simp only [h3, h22] at g0 g1 j0 j1
  have g0' : DataW.trod enc Tryz.prog W 0 (fun _ => true) true k1 3 [b3] = some p0 := g0
  have g1' : DataW.trod enc Tryz.prog W 0 (fun _ => true) true k1 22 [b4] = some p1 := g1
  have j0' : DataW.trod enc Tryz.prog W 0 (fun _ => true) true k2 3 [b5] = some q0 := j0
  have j1' : DataW.trod enc Tryz.prog W 0 (fun _ => true) true k2 22 [b6] = some q1 := j1
  obtain ⟨x3, e3, _, _⟩ := DataW.trod_int Tryz.underlying3 g0'
  obtain ⟨x4, e4, _, _⟩ := DataW.trod_int Tryz.underlying3 j0'
  simp only [List.cons.injEq, and_true] at e0 e1 e2 e3 e4 e5
  subst e0 e1 e2 e3 e4 e5
  obtain ⟨ua, na, wa, φ1, m1, a1, a2, a3, a4, a5, a6, a7, _, a8⟩ := read_words g1' hst hno
  obtain ⟨uk, nk, wk, φ2, m2, b1, b2, b3, b4, b5, b6, b7, _, b8⟩ := read_words j1' a3 a4
  refine ⟨_, (⟨x0, x1, x2, ⟨x3, na, wa⟩, ⟨x4, nk, wk⟩, x5⟩, ua, uk), φ2, m2, a1.trans b1, a2.trans b2, b3, b4, ?_, rfl, a6.ar.2.1, b6.ar.2.1, a6.grow b2, b6, a7, b7, ?_, ?_⟩
  ·exact Rs.cons R.int (Rs.cons R.int (Rs.cons R.int (Rs.cons R.int (Rs.cons (a5.ext b1) (Rs.cons R.int (Rs.cons b5 (Rs.one R.bool)))))))
  ·rcases a8 with h | ⟨D, sp, h1, h2⟩
   ·exact .inl h
   ·refine .inr ⟨y0.1, y1.1, y2.1, p0.1, D, sp, y4.1, y5.1, ?_, h2⟩
    rw [hx, hy3, h1]
  ·rcases b8 with h | ⟨D, sp, h1, h2⟩
   ·exact .inl h
   ·refine .inr ⟨y0.1, y1.1, y2.1, y3.1, q0.1, D, sp, y5.1, ?_, h2⟩
    rw [hx, hy4, h1]
end Go.Proofs.YtkimcedmfnoeoaaGreatDoor.HbF
set_option maxRecDepth 100000
namespace Go.Proofs.YtkimcedmfnoeoaaGreatDoor.HbF
open Go Go.AM Go.AM.G Go.RowKit
open Go.ChangeShapes Go.WideShapes Go.ChangeAt Go.RowKit
instance : Inhabited (SpanA × (V × V)) := ⟨⟨⟨0, 0, 0, ⟨0, 0, fun _ => 0⟩, ⟨0, 0, fun _ => 0⟩, false⟩, .nils, .nils⟩⟩
def spA {H : Type} (d : DataW H) (n : Nat) : Prop := n = 0 ∨ ∃ d0 d1 d2 dn D sp dm d7, d = .agg [d0, d1, d2, .agg [dn, .slice D sp], dm, d7] ∧ D.length = n
def spM {H : Type} (d : DataW H) (n : Nat) : Prop := n = 0 ∨ ∃ d0 d1 d2 da dn D sp d7, d = .agg [d0, d1, d2, da, .agg [dn, .slice D sp], d7] ∧ D.length = n
theorem read_spans {H : Type} {enc : TypeId × Value → H} {W : World} {base n : Nat} {c0 : Value} {y0 : DataW H × List MemPlace} (hok : Cell.okWide Tryz.prog W .any base 29 c0) (g : DataW.trod enc Tryz.prog W 0 (fun _ => true) true n 29 [c0] = some y0) {φ0 : Phi} {m0 : Mem} (hst : St φ0 m0 W) (hno : RO m0) :
  ∃ (u : V) (k : Nat) (q : Nat → SpanA × (V × V)) (φ : Phi) (m : Mem), Ext φ0 φ ∧ Grow m0 m ∧ St φ m W ∧ RO m ∧ R φ u c0 ∧ Rd m u 8 k (fun i => spanV (q i).1 (q i).2.1 (q i).2.2) ∧
   (∀ i, i < k → Rd m (q i).2.1 1 (q i).1.al.n (u64s (q i).1.al.w) ∧ Rd m (q i).2.2 1 (q i).1.mr.n (u64s (q i).1.mr.w) ∧ w64 (q i).1.al.n (q i).1.al.w ∧ w64 (q i).1.mr.n (q i).1.mr.w) ∧
   (k = 0 ∨ ∃ D sp, y0.1 = .slice D sp ∧ D.length = k ∧ ∀ i, i < k → ∃ d, D[i]? = some d ∧ spA d (q i).1.al.n ∧ spM d (q i).1.mr.n) := by
 have hz : Tryz.prog.cellsOf 178 = 8 := by kernel_rfl
 rcases Deep.open_slice Tryz.underlying29 g with ⟨hc, hy⟩ | ⟨a, len, cap, mm, n', D, Pl, hc, _, hl, hmx, hmm, hy, hel⟩
 ·simp only [List.cons.injEq, and_true] at hc
  subst hc
  exact ⟨.nils, 0, fun _ => default, φ0, m0, Ext.refl _, Grow.refl _, hst, hno, by simp [R], .inl ⟨rfl, rfl⟩, fun i h => absurd h (Nat.not_lt_zero _), .inl rfl⟩
 ·simp only [List.cons.injEq, and_true] at hc
  subst hc
  simp only [if_true] at hmm
  subst hmm
  have hhas : W.has Tryz.prog .any base a 178 mm := by
   simp only [Cell.okWide, Tryz.underlying29, Cell.ok] at hok
   exact hok.2.2
  obtain ⟨hs, c, t', fr, hc, hoff⟩ := has_cells hhas
  rw [hz] at hel
  obtain ⟨E, φ1, m1, a1, a2, a3, a4, a5⟩ := read_each hst hno (fun i φ m ev => ∃ cs', W.cells? 0 (a.add (i * 8)) 8 = some cs' ∧ ∃ nd, SpQ φ m ev nd cs' (D i)) (fun ⟨cs', h1, nd, h2⟩ hx hg => ⟨cs', h1, nd, h2.mono hx hg⟩) mm (fun i hi φ m _ _ hs' hr' => by
   obtain ⟨cs', e1, e2⟩ := hel i hi
   obtain ⟨ev, nd, φ', m', b1, b2, b3, b4, b5⟩ := read_span (World.cells?_some e1).2.1 e2 hs' hr'
   exact ⟨ev, φ', m', b1, b2, b3, b4, cs', e1, nd, b5⟩)
  obtain ⟨q, hq⟩ := Deep.choose_lt (α := SpanA × (V × V)) (n := mm) (p := fun i nd => ∃ cs', W.cells? 0 (a.add (i * 8)) 8 = some cs' ∧ SpQ φ1 m1 (E i) nd cs' (D i)) (fun i hi => by
   obtain ⟨cs', e1, nd, e2⟩ := a5 i hi
   exact ⟨nd, cs', e1, e2⟩)
  obtain ⟨φ, s0, s1, s2, s3, s4⟩ := read_slice a3 a4 (t := t') (fr := fr) (E := E) (z := 8) (by decide) hs hc hoff hl hmx (fun i hi => by
   obtain ⟨cs', _, _, e, c1, c2, _⟩ := hq i hi
   rw [e]
   refine ⟨rfl, ?_⟩
   intro v hv
   simp only [spanV, List.mem_cons, List.not_mem_nil, or_false] at hv
   rcases hv with rfl | rfl | rfl | rfl | rfl | rfl | rfl | rfl
   all_goals first | rfl | exact c1 | exact c2) (fun φ' hx i hi => by obtain ⟨cs', e1, e2, _⟩ := hq i hi; exact ⟨cs', e1, e2.ext hx⟩)
  refine ⟨_, len, q, φ, _, a1.trans s0, a2.trans (Grow.refl _).app, s1, s2, s3, .inl ⟨?_, by simp [zOk]⟩, fun i hi => ?_, .inr ⟨_, _, by rw [hy], by simp, fun i hi => ?_⟩⟩
  ·rw [s4]
   congr 1
   refine List.map_congr_left fun i hi => ?_
   obtain ⟨_, _, _, e, _⟩ := hq i (by have := List.mem_range.1 hi; omega)
   exact e
  ·obtain ⟨_, _, _, _, _, _, h1, h2, h3, h4, _⟩ := hq i (by omega)
   exact ⟨h1.app, h2.app, h3, h4⟩
  ·obtain ⟨_, _, _, _, _, _, _, _, _, _, h5, h6⟩ := hq i (by omega)
   exact ⟨D i, by rw [List.getElem?_map, List.getElem?_range hi]; rfl, h5, h6⟩
def HpIn (m : Mem) (u : V) (H : HeapA) : Prop := ∃ aw uw sv va vm, u = .agg (heapV H aw uw sv) ∧ HpRd m aw uw sv va vm H
theorem HpIn.grow {m m' : Mem} {u : V} {H : HeapA} (h : HpIn m u H) (hg : Grow m m') : HpIn m' u H := by
 obtain ⟨aw, uw, sv, va, vm, e, h⟩ := h
 obtain ⟨g, rfl⟩ := hg
 exact ⟨aw, uw, sv, va, vm, e, h.app⟩
theorem read_heap {H : Type} {enc : TypeId × Value → H} {W : World} {base : Nat} {v : Value} {d : DataW H} {ps : List MemPlace} {ts : List TypeId} {ds : List (DataW H)} {j : Nat} (hv : Value.okWide Tryz.prog W .any base 31 v) (h : DataW.Trod enc Tryz.prog W 0 (fun _ => true) true 31 v d ps) (hsz : (DataW.weightsEach Tryz.prog ts ds).all (· ≤ reachBytes) = true) (ht : ts[j]? = some 31) (hd : ds[j]? = some d) {φ0 : Phi} {m0 : Mem} (hst : St φ0 m0 W) (hno : RO m0) :
  ∃ (u : V) (l : HeapA) (φ : Phi) (m : Mem), Ext φ0 φ ∧ Grow m0 m ∧ St φ m W ∧ RO m ∧ R φ u v ∧ HpIn m u l ∧ True := by
 simp only [Value.okWide, Tryz.underlying31] at hv
 obtain ⟨cs, rfl, hsz1, ts', hts, _, hcell⟩ := hv
 have hts' : ts' = [22, 3, 22, 29] := by
  have : Tryz.prog.cellTypes Tryz.prog.depth 31 = some [22, 3, 22, 29] := by kernel_rfl
  rw [this] at hts
  cases hts
  rfl
 subst hts'
 have h31 : Tryz.prog.cellsOf 31 = 4 := by kernel_rfl
 have h24 : Tryz.prog.cellsOf 24 = 1 := by kernel_rfl
 have h28 : Tryz.prog.cellsOf 28 = 2 := by kernel_rfl
 have h29 : Tryz.prog.cellsOf 29 = 1 := by kernel_rfl
 have h26 : Tryz.prog.cellsOf 26 = 2 := by kernel_rfl
 have h22 : Tryz.prog.cellsOf 22 = 1 := by kernel_rfl
 have h3 : Tryz.prog.cellsOf 3 = 1 := by kernel_rfl
 have hb51 : Tryz.prog.bytesOf 47 = 8 := by kernel_rfl
 have hb137 : Tryz.prog.bytesOf 178 = 96 := by kernel_rfl
 rw [h31] at hsz1
 obtain ⟨c0, c1, c2, c3, rfl⟩ : ∃ c0 c1 c2 c3, cs = #[c0, c1, c2, c3] := by
  obtain ⟨l⟩ := cs
  match l, hsz1 with
  | [c, c', c'', c3], _ => exact ⟨c, c', c'', c3, rfl⟩
 obtain ⟨t3, ht3, hok3⟩ := hcell 3 c3 rfl
 simp at ht3
 subst ht3
 obtain ⟨fuel, hf⟩ := h
 obtain ⟨y0, y1, y2, n, hx, _, g0, g1, g2⟩ := Deep.trod_struct3 Tryz.underlying31 hf
 simp only [h24, h28, h29] at g0 g1 g2
 have g0' : DataW.trod enc Tryz.prog W 0 (fun _ => true) true n 24 [c0] = some y0 := g0
 have g1' : DataW.trod enc Tryz.prog W 0 (fun _ => true) true n 28 [c1, c2] = some y1 := g1
 have g2' : DataW.trod enc Tryz.prog W 0 (fun _ => true) true n 29 [c3] = some y2 := g2
 simp only [Prod.mk.injEq] at hx
 obtain ⟨rfl, _⟩ := hx
 obtain ⟨z0, n0, hz0, _, k0⟩ := trod_struct1 Tryz.underlying24 g0'
 simp only [h22] at k0
 have k0' : DataW.trod enc Tryz.prog W 0 (fun _ => true) true n0 22 [c0] = some z0 := k0
 obtain ⟨z1, n1, hz1, _, k1⟩ := trod_struct1 Tryz.underlying28 g1'
 simp only [h26] at k1
 have k1' : DataW.trod enc Tryz.prog W 0 (fun _ => true) true n1 26 [c1, c2] = some z1 := k1
 obtain ⟨z2, z3, n2, hz2, _, k2, k3⟩ := trod_struct2 Tryz.underlying26 k1'
 simp only [h3, h22] at k2 k3
 have k2' : DataW.trod enc Tryz.prog W 0 (fun _ => true) true n2 3 [c1] = some z2 := k2
 have k3' : DataW.trod enc Tryz.prog W 0 (fun _ => true) true n2 22 [c2] = some z3 := k3
 obtain ⟨x1, e1, _, _⟩ := DataW.trod_int Tryz.underlying3 k2'
 simp only [List.cons.injEq, and_true] at e1
 subst e1
 obtain ⟨aw, na, wa, φ1, m1, a1, a2, a3, a4, a5, a6, a7, a8, a9⟩ := read_words k0' hst hno
 obtain ⟨uw, nu, wu, φ2, m2, b1, b2, b3, b4, b5, b6, b7, b8, b9⟩ := read_words k3' a3 a4
 obtain ⟨sv, ns, q, φ3, m3, s1, s2, s3, s4, s5, s6, s7, s8⟩ := read_spans hok3 g2' b3 b4
 have w0 := fun x hx => DataW.weights_mem_each (P := Tryz.prog) ht hd x hx
 have wle : ∀ x, x ∈ DataW.weights Tryz.prog 31 (.agg [y0.1, y1.1, y2.1]) → x ≤ 0x7ffffffff000 := fun x hx => of_decide_eq_true (List.all_eq_true.1 hsz _ (w0 x hx))
 have wE : ∀ (i : Nat) t d, ([24, 28, 29] : List TypeId)[i]? = some t → ([y0.1, y1.1, y2.1] : List (DataW H))[i]? = some d → ∀ x, x ∈ DataW.weights Tryz.prog t d → x ≤ 0x7ffffffff000 := fun i t d h1 h2 x hx => wle x (by
  rw [DataW.weights.eq_def]
  simp only [Tryz.underlying31, List.map_cons, List.map_nil, Array.toList]
  exact DataW.weights_mem_each (j := i) h1 h2 x hx)
 have hna : na < 17592186044417 := by
  rcases a9 with rfl | ⟨D, sp, e1, e2⟩
  ·decide
  ·have := wE 0 24 y0.1 rfl rfl ((D.length + sp.length) * Tryz.prog.bytesOf 47) (by rw [hz0, e1]; simp [DataW.weights, Tryz.underlying24, DataW.weightsEach, Tryz.underlying22])
   rw [hb51] at this
   omega
 have hnu : nu < 17592186044417 := by
  rcases b9 with rfl | ⟨D, sp, e1, e2⟩
  ·decide
  ·have := wE 1 28 y1.1 rfl rfl ((D.length + sp.length) * Tryz.prog.bytesOf 47) (by rw [hz1, hz2, e1]; simp [DataW.weights, Tryz.underlying28, DataW.weightsEach, Tryz.underlying26, Tryz.underlying22])
   rw [hb51] at this
   omega
 have hns : ns < 17592186044417 := by
  rcases s8 with rfl | ⟨D, sp, e1, e2, _⟩
  ·decide
  ·have := wE 2 29 y2.1 rfl rfl ((D.length + sp.length) * Tryz.prog.bytesOf 178) (by rw [e1]; simp [DataW.weights, Tryz.underlying29])
   rw [hb137] at this
   omega
 have hin : ∀ i, i < ns → (q i).1.al.n < 17592186044417 ∧ (q i).1.mr.n < 17592186044417 := by
  intro i hi
  rcases s8 with rfl | ⟨D, sp, e1, e2, e3⟩
  ·omega
  ·obtain ⟨d, hdi, hA, hM⟩ := e3 i hi
   have wi : ∀ x, x ∈ DataW.weights Tryz.prog 178 d → x ≤ 0x7ffffffff000 := fun x hx => wE 2 29 y2.1 rfl rfl x (by
    rw [e1]
    simp only [DataW.weights, Tryz.underlying29, List.mem_cons, List.mem_append]
    exact .inr (.inl (weightsAll_mem (List.mem_of_getElem? hdi) _ hx)))
   constructor
   ·rcases hA with h0 | ⟨d0, d1, d2, dn, D', sp', dm, d7, h1, h2⟩
    ·rw [h0]; decide
    ·have := wi ((D'.length + sp'.length) * Tryz.prog.bytesOf 47) (by rw [h1]; simp [DataW.weights, Tryz.underlying178, DataW.weightsEach, Tryz.underlying26, Tryz.underlying22])
     rw [hb51] at this
     omega
   ·rcases hM with h0 | ⟨d0, d1, d2, da, dn, D', sp', d7, h1, h2⟩
    ·rw [h0]; decide
    ·have := wi ((D'.length + sp'.length) * Tryz.prog.bytesOf 47) (by rw [h1]; simp [DataW.weights, Tryz.underlying178, DataW.weightsEach, Tryz.underlying26, Tryz.underlying22])
     rw [hb51] at this
     omega
 refine ⟨.agg [aw, .int .i64 x1, uw, sv], ⟨na, wa, ⟨x1, nu, wu⟩, ns, fun i => (q i).1⟩, φ3, m3, (a1.trans b1).trans s1, (a2.trans b2).trans s2, s3, s4, ?_, ⟨aw, uw, sv, fun i => (q i).2.1, fun i => (q i).2.2, rfl, ?_⟩, trivial⟩
 ·unfold R
  exact ⟨[c0, _, c2, c3], rfl, Rs.cons (a5.ext (b1.trans s1)) (Rs.cons R.int (Rs.cons (b5.ext s1) (Rs.one s5)))⟩
 ·refine ⟨(a6.grow b2).grow s2, b6.grow s2, ⟨s6, fun i hi => ?_⟩, a7, b7, hna, hnu, hns, a8⟩
  obtain ⟨h1, h2, h3, h4⟩ := s7 i hi
  exact ⟨h1, h2, h3, h4, (hin i hi).1, (hin i hi).2⟩
def NuIn (m : Mem) (u : V) (l : List Nat) : Prop := Nus m u l
theorem NuIn.grow {m m' : Mem} {u : V} {l : List Nat} (h : NuIn m u l) (hg : Grow m m') : NuIn m' u l := Rd.grow h hg
theorem read_nus {H : Type} {enc : TypeId × Value → H} {W : World} {base : Nat} {v : Value} {d : DataW H} {ps : List MemPlace} {ts : List TypeId} {ds : List (DataW H)} {j : Nat} (hv : Value.okWide Tryz.prog W .any base 22 v) (h : DataW.Trod enc Tryz.prog W 0 (fun _ => true) true 22 v d ps) (hsz : (DataW.weightsEach Tryz.prog ts ds).all (· ≤ reachBytes) = true) (ht : ts[j]? = some 22) (hd : ds[j]? = some d) {φ0 : Phi} {m0 : Mem} (hst : St φ0 m0 W) (hno : RO m0) :
  ∃ (u : V) (l : List Nat) (φ : Phi) (m : Mem), Ext φ0 φ ∧ Grow m0 m ∧ St φ m W ∧ RO m ∧ R φ u v ∧ NuIn m u l ∧ l.length ≤ 17592186043904 := by
 have hb51 : Tryz.prog.bytesOf 47 = 8 := by kernel_rfl
 obtain ⟨fuel, hf⟩ := h
 have hc : v.cells.toList = [v] := by
  cases v with
  | agg cs =>
   simp only [Value.okWide, Tryz.underlying22] at hv
   simp [Cell.okWide, Tryz.underlying22, Cell.ok] at hv
  | _ => rfl
 rw [hc] at hf
 obtain ⟨u, k, w, φ, m, a1, a2, a3, a4, a5, a6, a7, _, a9⟩ := read_words hf hst hno
 refine ⟨u, (List.range k).map w, φ, m, a1, a2, a3, a4, a5, ?_, ?_⟩
 ·rcases a6 with h | ⟨h0, h1⟩
  ·refine .inl ?_
   have e : (List.range ((List.range k).map w).length).map (fun i => [V.int .u64 (nx ((List.range k).map w) i : Nat)]) = (List.range k).map (u64s w) := by
    rw [List.length_map, List.length_range]
    refine List.map_congr_left fun i hi => ?_
    have hi' := List.mem_range.1 hi
    simp [nx, u64s, hi']
   rw [e]
   exact h
  ·subst h0
   exact .inr ⟨rfl, h1⟩
 ·rw [List.length_map, List.length_range]
  rcases a9 with rfl | ⟨D, sp, e1, e2⟩
  ·decide
  ·have w0 := DataW.weights_mem_each (P := Tryz.prog) ht hd ((D.length + sp.length) * Tryz.prog.bytesOf 47) (by
    have e1' : d = .slice D sp := e1
    rw [e1']; simp [DataW.weights, Tryz.underlying22])
   have := of_decide_eq_true (List.all_eq_true.1 hsz _ w0)
   rw [hb51] at this
   have : (D.length + sp.length) * 8 ≤ 0x7ffffffff000 := this
   omega
end Go.Proofs.YtkimcedmfnoeoaaGreatDoor.HbF
