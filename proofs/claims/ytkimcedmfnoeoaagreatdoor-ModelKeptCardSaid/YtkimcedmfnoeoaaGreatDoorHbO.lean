/- Specials, and a fate, that were handed in, read. -/
import Derived.Test.YtkimcedmfnoeoaaGreatDoorHbF
import Derived.Test.YtkimcedmfnoeoaaGreatDoorHkF
set_option linter.unusedVariables false
set_option linter.unusedSimpArgs false
set_option maxRecDepth 100000
namespace Go.Proofs.YtkimcedmfnoeoaaGreatDoor.HbF
open Go Go.AM Go.AM.G Go.RowKit
open Go.ChangeShapes Go.WideShapes Go.ChangeAt Go.RowKit
def spOk (s : Spc) : Prop := s.ad < 18446744073709551616 ∧ s.kd < 256 ∧ s.tg < 18446744073709551616
theorem read_spC {H : Type} {enc : TypeId × Value → H} {W : World} {base n : Nat} {c0 : Value} {y0 : DataW H × List MemPlace} (hok : Cell.okWide Tryz.prog W .any base 35 c0) (g : DataW.trod enc Tryz.prog W 0 (fun _ => true) true n 35 [c0] = some y0) {φ0 : Phi} {m0 : Mem} (hst : St φ0 m0 W) (hno : RO m0) :
    ∃ (u : V) (l : List Spc) (φ : Phi) (m : Mem), Ext φ0 φ ∧ Grow m0 m ∧ St φ m W ∧ RO m ∧ R φ u c0 ∧ Sl m u 3 (l.map spcV) ∧ (∀ s ∈ l, spOk s) ∧ (l = [] ∨ ∃ D sp, y0.1 = .slice D sp ∧ D.length = l.length) ∧ capOk u := by
  have h49 : Tryz.prog.cellsOf 49 = 1 := by kernel_rfl
  have h25 : Tryz.prog.cellsOf 47 = 1 := by kernel_rfl
  refine read_closedC (e := 51) Tryz.underlying35 (z := 3) (by kernel_rfl) (by decide) hok g (fun s : Spc => spOk s) spcV (fun x => ⟨rfl, by simp [spcV, V.isCell]⟩) ?_ hst hno
  intro k cs x hl e2
  obtain ⟨z0, z1, z2, k, _, hlen, f0, f1, f2⟩ := Deep.trod_struct3 Tryz.underlying51 e2
  simp only [h49, h25] at f0 f1 f2
  obtain ⟨x0, e0, _, w0⟩ := DataW.trod_int Tryz.underlying47 f0
  obtain ⟨x1, e3, _, w1⟩ := DataW.trod_int Tryz.underlying49 f1
  obtain ⟨x2, e4, _, w2⟩ := DataW.trod_int Tryz.underlying47 f2
  have w0' : 0 ≤ x0 ∧ x0 < 18446744073709551616 := by simp [Lit.wf, IntKind.min, IntKind.max, IntKind.signed, IntKind.bits] at w0; omega
  have w1' : 0 ≤ x1 ∧ x1 < 256 := by simp [Lit.wf, IntKind.min, IntKind.max, IntKind.signed, IntKind.bits] at w1; omega
  have w2' : 0 ≤ x2 ∧ x2 < 18446744073709551616 := by simp [Lit.wf, IntKind.min, IntKind.max, IntKind.signed, IntKind.bits] at w2; omega
  refine ⟨⟨x0.toNat, x1.toNat, x2.toNat⟩, ⟨by show x0.toNat < _; omega, by show x1.toNat < _; omega, by show x2.toNat < _; omega⟩, fun φ => ?_⟩
  match cs, hl with
  | [b0, b1, b2], _ =>
    simp at e0 e3 e4
    subst e0 e3 e4
    have i0 : ((x0.toNat : Nat) : Int) = x0 := by omega
    have i1 : ((x1.toNat : Nat) : Int) = x1 := by omega
    have i2 : ((x2.toNat : Nat) : Int) = x2 := by omega
    simp only [spcV, i0, i1, i2]
    exact Rs.cons R.int (Rs.cons R.int (Rs.one R.int))
theorem read_sp {H : Type} {enc : TypeId × Value → H} {W : World} {base n : Nat} {c0 : Value} {y0 : DataW H × List MemPlace} (hok : Cell.okWide Tryz.prog W .any base 35 c0) (g : DataW.trod enc Tryz.prog W 0 (fun _ => true) true n 35 [c0] = some y0) {φ0 : Phi} {m0 : Mem} (hst : St φ0 m0 W) (hno : RO m0) :
    ∃ (u : V) (l : List Spc) (φ : Phi) (m : Mem), Ext φ0 φ ∧ Grow m0 m ∧ St φ m W ∧ RO m ∧ R φ u c0 ∧ Sl m u 3 (l.map spcV) ∧ (∀ s ∈ l, spOk s) ∧ (l = [] ∨ ∃ D sp, y0.1 = .slice D sp ∧ D.length = l.length) := by
  obtain ⟨u, l, φ, m, a1, a2, a3, a4, a5, a6, a7, a8, _⟩ := read_spC hok g hst hno
  exact ⟨u, l, φ, m, a1, a2, a3, a4, a5, a6, a7, a8⟩
theorem read_w {H : Type} {enc : TypeId × Value → H} {W : World} {base n : Nat} {c0 : Value} {y0 : DataW H × List MemPlace} (hok : Cell.okWide Tryz.prog W .any base 22 c0) (g : DataW.trod enc Tryz.prog W 0 (fun _ => true) true n 22 [c0] = some y0) {φ0 : Phi} {m0 : Mem} (hst : St φ0 m0 W) (hno : RO m0) :
    ∃ (u : V) (l : List U) (φ : Phi) (m : Mem), Ext φ0 φ ∧ Grow m0 m ∧ St φ m W ∧ RO m ∧ R φ u c0 ∧ Sl m u 1 (l.map encU) ∧ (∀ s ∈ l, True) ∧ (l = [] ∨ ∃ D sp, y0.1 = .slice D sp ∧ D.length = l.length) :=
  read_closed' (e := 47) Tryz.underlying22 (z := 1) (by kernel_rfl) (by decide) hok g (fun _ => True) encU (fun x => ⟨rfl, by simp [encU, V.isCell]⟩) (fun k cs x hl e2 => by
    obtain ⟨q, hq⟩ := u64_elem k cs x hl e2
    exact ⟨q, trivial, hq⟩) hst hno
/-- a fate, as it lies in the abstract memory. -/
def FtIn (m : Mem) (u : V) (x : FtA) : Prop := ∃ l k f c, u = .agg [l, k, f, c] ∧ FtRd m l k f c x ∧ V.beq l l = true ∧ V.beq k k = true ∧ V.beq f f = true ∧ V.beq c c = true
theorem FtIn.grow {m m' : Mem} {u : V} {x : FtA} (h : FtIn m u x) (hg : Grow m m') : FtIn m' u x := by
  obtain ⟨l, k, f, c, e, h, r⟩ := h
  obtain ⟨g, rfl⟩ := hg
  exact ⟨l, k, f, c, e, h.app, r⟩
theorem trod_struct4 {H : Type} {enc : TypeId × Value → H} {P : Program} {w : World} {base : Nat} {spare : TypeId → Bool} {held : Bool} {t : TypeId} {f0 f1 f2 f3 : Field} {fuel : Nat} {cs : List Value} {x : DataW H × List MemPlace} (ht : P.underlying t = some (.struct #[f0, f1, f2, f3])) (h : DataW.trod enc P w base spare held fuel t cs = some x) :
    ∃ y0 y1 y2 y3 n, x.1 = .agg [y0.1, y1.1, y2.1, y3.1] ∧ DataW.trod enc P w base spare held n f0.type ((cs.drop f0.offset).take (P.cellsOf f0.type)) = some y0 ∧ DataW.trod enc P w base spare held n f1.type ((cs.drop f1.offset).take (P.cellsOf f1.type)) = some y1 ∧
      DataW.trod enc P w base spare held n f2.type ((cs.drop f2.offset).take (P.cellsOf f2.type)) = some y2 ∧ DataW.trod enc P w base spare held n f3.type ((cs.drop f3.offset).take (P.cellsOf f3.type)) = some y3 := by
  obtain ⟨xs, n, _, rfl, _, hlen, hf⟩ := DataW.trod_struct ht h
  match xs, hlen with
  | [y0, y1, y2, y3], _ => exact ⟨y0, y1, y2, y3, n, by simp, by simpa using hf 0 f0 rfl, by simpa using hf 1 f1 rfl, by simpa using hf 2 f2 rfl, by simpa using hf 3 f3 rfl⟩
theorem read_fate {H : Type} {enc : TypeId × Value → H} {W : World} {base : Nat} {v : Value} {d : DataW H} {ps : List MemPlace} {ts : List TypeId} {ds : List (DataW H)} {j : Nat} (hv : Value.okWide Tryz.prog W .any base 40 v) (h : DataW.Trod enc Tryz.prog W 0 (fun _ => true) true 40 v d ps) (hsz : (DataW.weightsEach Tryz.prog ts ds).all (· ≤ reachBytes) = true) (ht : ts[j]? = some 40) (hd : ds[j]? = some d) {φ0 : Phi} {m0 : Mem} (hst : St φ0 m0 W) (hno : RO m0) :
    ∃ (u : V) (l : FtA) (φ : Phi) (m : Mem), Ext φ0 φ ∧ Grow m0 m ∧ St φ m W ∧ RO m ∧ R φ u v ∧ FtIn m u l ∧ True := by
  simp only [Value.okWide, Tryz.underlying40] at hv
  obtain ⟨cs, rfl, hsz1, ts', hts, _, hcell⟩ := hv
  have hts' : ts' = [22, 22, 35, 35] := by
    have : Tryz.prog.cellTypes Tryz.prog.depth 40 = some [22, 22, 35, 35] := by kernel_rfl
    rw [this] at hts
    cases hts
    rfl
  subst hts'
  have h40 : Tryz.prog.cellsOf 40 = 4 := by kernel_rfl
  have h22 : Tryz.prog.cellsOf 22 = 1 := by kernel_rfl
  have h35 : Tryz.prog.cellsOf 35 = 1 := by kernel_rfl
  have hb51 : Tryz.prog.bytesOf 47 = 8 := by kernel_rfl
  have hb24 : Tryz.prog.bytesOf 51 = 24 := by kernel_rfl
  rw [h40] at hsz1
  obtain ⟨c0, c1, c2, c3, rfl⟩ : ∃ c0 c1 c2 c3, cs = #[c0, c1, c2, c3] := by
    obtain ⟨l⟩ := cs
    match l, hsz1 with
    | [c, c', c'', c3], _ => exact ⟨c, c', c'', c3, rfl⟩
  obtain ⟨t0, ht0, hok0⟩ := hcell 0 c0 rfl
  obtain ⟨t1, ht1, hok1⟩ := hcell 1 c1 rfl
  obtain ⟨t2, ht2, hok2⟩ := hcell 2 c2 rfl
  obtain ⟨t3, ht3, hok3⟩ := hcell 3 c3 rfl
  simp at ht0 ht1 ht2 ht3
  subst ht0 ht1 ht2 ht3
  obtain ⟨fuel, hf⟩ := h
  obtain ⟨y0, y1, y2, y3, n, hx, g0, g1, g2, g3⟩ := trod_struct4 Tryz.underlying40 hf
  simp only [h22, h35] at g0 g1 g2 g3
  have g0' : DataW.trod enc Tryz.prog W 0 (fun _ => true) true n 22 [c0] = some y0 := g0
  have g1' : DataW.trod enc Tryz.prog W 0 (fun _ => true) true n 22 [c1] = some y1 := g1
  have g2' : DataW.trod enc Tryz.prog W 0 (fun _ => true) true n 35 [c2] = some y2 := g2
  have g3' : DataW.trod enc Tryz.prog W 0 (fun _ => true) true n 35 [c3] = some y3 := g3
  have hx' : d = .agg [y0.1, y1.1, y2.1, y3.1] := hx
  subst hx'
  obtain ⟨l, ll, φ1, m1, a1, a2, a3, a4, a5, a6, _, a8⟩ := read_w hok0 g0' hst hno
  obtain ⟨k, lk, φ2, m2, b1, b2, b3, b4, b5, b6, _, b8⟩ := read_w hok1 g1' a3 a4
  obtain ⟨f, lf, φ3, m3, d1, d2, d3, d4, d5, d6, _, d8⟩ := read_sp hok2 g2' b3 b4
  obtain ⟨c, lc, φ4, m4, e1, e2, e3, e4, e5, e6, _, e8⟩ := read_sp hok3 g3' d3 d4
  have w0 := fun x hx => DataW.weights_mem_each (P := Tryz.prog) ht hd x hx
  have wle : ∀ x, x ∈ DataW.weights Tryz.prog 40 (.agg [y0.1, y1.1, y2.1, y3.1]) → x ≤ 0x7ffffffff000 := fun x hx => of_decide_eq_true (List.all_eq_true.1 hsz _ (w0 x hx))
  have wE : ∀ (i : Nat) t d, ([22, 22, 35, 35] : List TypeId)[i]? = some t → ([y0.1, y1.1, y2.1, y3.1] : List (DataW H))[i]? = some d → ∀ x, x ∈ DataW.weights Tryz.prog t d → x ≤ 0x7ffffffff000 := fun i t d h1 h2 x hx => wle x (by
    rw [DataW.weights.eq_def]
    simp only [Tryz.underlying40, List.map_cons, List.map_nil, Array.toList]
    exact DataW.weights_mem_each (j := i) h1 h2 x hx)
  have bW : ∀ (i : Nat) (l : List U) (y : DataW H), ([22, 22, 35, 35] : List TypeId)[i]? = some 22 → ([y0.1, y1.1, y2.1, y3.1] : List (DataW H))[i]? = some y → (l = [] ∨ ∃ D sp, y = .slice D sp ∧ D.length = l.length) → l.length < 17592186044417 := by
    intro i l y h1 h2 h3
    rcases h3 with rfl | ⟨D, sp, q1, q2⟩
    · decide
    · have := wE i 22 y h1 h2 ((D.length + sp.length) * Tryz.prog.bytesOf 47) (by rw [q1]; simp [DataW.weights, Tryz.underlying22])
      rw [hb51] at this
      omega
  have bS : ∀ (i : Nat) (l : List Spc) (y : DataW H), ([22, 22, 35, 35] : List TypeId)[i]? = some 35 → ([y0.1, y1.1, y2.1, y3.1] : List (DataW H))[i]? = some y → (l = [] ∨ ∃ D sp, y = .slice D sp ∧ D.length = l.length) → l.length < 17592186044417 := by
    intro i l y h1 h2 h3
    rcases h3 with rfl | ⟨D, sp, q1, q2⟩
    · decide
    · have := wE i 35 y h1 h2 ((D.length + sp.length) * Tryz.prog.bytesOf 51) (by rw [q1]; simp [DataW.weights, Tryz.underlying35])
      rw [hb24] at this
      omega
  rw [wOf_map] at a6 b6
  rw [spOf_map] at d6 e6
  refine ⟨.agg [l, k, f, c], ⟨_, wOf ll, _, wOf lk, _, spOf lf, _, spOf lc⟩, φ4, m4, ((a1.trans b1).trans d1).trans e1, ((a2.trans b2).trans d2).trans e2, e3, e4, ?_, ⟨l, k, f, c, rfl, ⟨.inl (((a6.grow b2).grow d2).grow e2), .inl ((b6.grow d2).grow e2), .inl (d6.grow e2), .inl e6, bW 0 ll _ rfl rfl a8, bW 1 lk _ rfl rfl b8, bS 2 lf _ rfl rfl d8, bS 3 lc _ rfl rfl e8⟩, a6.beq', b6.beq', d6.beq', e6.beq'⟩, trivial⟩
  unfold R
  exact ⟨[c0, c1, c2, c3], rfl, Rs.cons (((a5.ext b1).ext d1).ext e1) (Rs.cons ((b5.ext d1).ext e1) (Rs.cons (d5.ext e1) (Rs.one e5)))⟩
theorem modelAlike_law {m : Mem} {u v : V} {x y : FtA} (hx : FtIn m u x) (hy : FtIn m v y) : C S n_law11_ModelAlike [u, v] m (fun r _ => r = .bool true) := by
  obtain ⟨l, k, f, c, rfl, h, b1, b2, b3, b4⟩ := hx
  obtain ⟨l', k', f', c', rfl, h', b1', b2', b3', b4'⟩ := hy
  exact ModelAlike_spec h h' b1 b2 b3 b4 b1' b2' b3' b4'
end Go.Proofs.YtkimcedmfnoeoaaGreatDoor.HbF
