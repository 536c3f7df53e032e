/- Part of the proof: contracts of functions of the given program on an abstract machine. -/
import Derived.Test.YtnpefpiggklimaaRows
import Derived.Test.YtnpefpiggklimaaGraphI0
import Derived.Test.YtnpefpiggklimaaAmRead
import Derived.Test.YtnpefpiggklimaaAmToldA
import Derived.WalkKit
import Derived.ProofKit
import Derived.OpenShut
import Derived.ChangeOld
import Derived.Below
import Derived.SizedLaws
import Derived.Deep.Strs
set_option linter.unusedVariables false
set_option linter.unusedSimpArgs false
namespace Go.Proofs.Ytnpefpiggklimaa.GraphBase
open Go Go.AM Go.AM.G Go.RowKit
theorem toldOk0 : ToldOk Try.prog X0 := by
  intro f t h
  cases h
theorem sound0 (n : Nat) : SoundCall Try.prog (callN (fun f => tab.lookup f) X0 n) := callN_ok (Checked.mixed Try.checked) tableOk toldOk0 Xfr0 n
theorem lives_ok (m : Mem) : CallOk Try.prog n_law31_lives [] m (.bool true) m := by
  have h := lives_run
  cases hc : callN (fun f => tab.lookup f) X0 60 n_law31_lives [] [] with
  | none => rw [hc] at h; cases h
  | some p =>
    obtain ⟨v, m1⟩ := p
    rw [hc] at h
    have hv : v = .bool true := by
      unfold isT at h
      split at h
      · rename_i e; cases e; rfl
      · cases h
    subst hv
    exact closed_ok (sound0 60 _ _ _ _ _ hc) m
theorem toldOk : ToldOk Try.prog X := by
  intro f t h call hc args m v m' e
  unfold X at h
  split at h
  · rename_i hf
    cases h
    subst hf
    cases args with
    | nil => cases e; exact lives_ok m
    | cons a b => cases e
  · cases h
theorem sound (n : Nat) : SoundCall Try.prog (callN S.F S.X n) := callN_ok (Checked.mixed Try.checked) tableOk toldOk Xfr n
theorem law_calls {f : Nat} {args : List V} {m : Mem} (h : C S f args m (fun r m' => r = .bool true ∧ Grow m m')) {φ : Phi} {W : World} {cargs : List Value} (hst : St φ m W) (hr : Rs φ args cargs) (hno : RO m) :
    Calls Try.prog f cargs.toArray W fun e W' => e = .returned (.bool true) ∧ Below W.heap.size W W' := law_of sound h hst hr hno
open Go.ChangeShapes Go.WideShapes Go.ChangeAt Go.RowKit
theorem int_elem {H : Type} {enc : TypeId × Value → H} {W : World} (k : Nat) (cs : List Value) (x : DataW H × List MemPlace) (hl : cs.length = 1) (e2 : DataW.trod enc Try.prog W 0 (fun _ => true) true k 3 cs = some x) : ∃ q : Int, ∀ φ, Rs φ [V.int .i64 q] cs := by
  match cs, hl with
  | [c], _ =>
    obtain ⟨x1, e3, _, _⟩ := DataW.trod_int Try.underlying3 e2
    simp at e3
    subst e3
    exact ⟨x1, fun φ => Rs.one R.int⟩
/-- a row of places, wherever it stands. -/
theorem read_to {H : Type} {enc : TypeId × Value → H} {W : World} {n : Nat} {c0 : Value} {y0 : DataW H × List MemPlace} (g : DataW.trod enc Try.prog W 0 (fun _ => true) true n 23 [c0] = some y0) {φ0 : Phi} {m0 : Mem} (hst : St φ0 m0 W) (hno : RO m0) :
    ∃ (u : V) (l : List Int) (φ : Phi) (m : Mem), Ext φ0 φ ∧ Grow m0 m ∧ St φ m W ∧ RO m ∧ R φ u c0 ∧ SlR m u 1 (i64s l) ∧ (l = [] ∨ ∃ D sp, y0.1 = .slice D sp ∧ D.length = l.length) := by
  obtain ⟨u, l, φ, m, a1, a2, a3, a4, a5, a6, a7⟩ := read_inner (e := 3) Try.underlying23 (z := 1) (by kernel_rfl) (by decide) g (fun x : Int => [V.int .i64 x]) (fun x => ⟨rfl, by simp [V.isCell]⟩) int_elem hst hno
  exact ⟨u, l, φ, m, a1, a2, a3, a4, a5, a6, a7⟩
/-- what a node is in the abstract memory. -/
def NodeQ {H : Type} (φ : Phi) (m : Mem) (ev : List V) (nd : NodeA) (cs : List Value) (d : DataW H) : Prop := 0 ≤ nd.addr ∧ Rs φ ev cs ∧ ∃ tv, ev = [.int .u64 nd.addr, .int .i64 nd.words, tv] ∧ SlR m tv 1 (i64s nd.to) ∧ (nd.to = [] ∨ ∃ d0 d1 D sp, d = .agg [d0, d1, .slice D sp] ∧ D.length = nd.to.length)
theorem NodeQ.mono {H : Type} {φ φ' : Phi} {m m' : Mem} {ev : List V} {nd : NodeA} {cs : List Value} {d : DataW H} (h : NodeQ φ m ev nd cs d) (hx : Ext φ φ') (hg : Grow m m') : NodeQ φ' m' ev nd cs d := by
  obtain ⟨n, a, tv, b, c, e⟩ := h
  exact ⟨n, a.ext hx, tv, b, c.grow hg, e⟩
theorem read_node {H : Type} {enc : TypeId × Value → H} {W : World} {n : Nat} {cs : List Value} {x : DataW H × List MemPlace} (hl : cs.length = 3) (g : DataW.trod enc Try.prog W 0 (fun _ => true) true n 45 cs = some x) {φ0 : Phi} {m0 : Mem} (hst : St φ0 m0 W) (hno : RO m0) :
    ∃ (ev : List V) (nd : NodeA) (φ : Phi) (m : Mem), Ext φ0 φ ∧ Grow m0 m ∧ St φ m W ∧ RO m ∧ NodeQ φ m ev nd cs x.1 := by
  have h43 : Try.prog.cellsOf 43 = 1 := by kernel_rfl
  have h3 : Try.prog.cellsOf 3 = 1 := by kernel_rfl
  have h23 : Try.prog.cellsOf 23 = 1 := by kernel_rfl
  obtain ⟨z0, z1, z2, k, rfl, hlen, f0, f1, f2⟩ := Deep.trod_struct3 Try.underlying45 g
  simp only [h43, h3, h23] at f0 f1 f2
  obtain ⟨x0, e0, _, w0⟩ := DataW.trod_int Try.underlying43 f0
  have w0' : 0 ≤ x0 := by
    have h0 : IntKind.u64.min = 0 := by decide
    have := w0
    simp only [Lit.wf, Bool.and_eq_true, decide_eq_true_eq, h0] at this
    exact this.1
  obtain ⟨x1, e1, _, _⟩ := DataW.trod_int Try.underlying3 f1
  match cs, hl with
  | [b0, b1, b2], _ =>
    simp at e0 e1 f2
    subst e0 e1
    obtain ⟨u, l, φ, m, a1, a2, a3, a4, a5, a6, a7⟩ := read_to f2 hst hno
    refine ⟨[.int .u64 x0, .int .i64 x1, u], ⟨x0, x1, l⟩, φ, m, a1, a2, a3, a4, w0', Rs.cons R.int (Rs.cons R.int (Rs.one a5)), u, rfl, a6, ?_⟩
    rcases a7 with h | ⟨D, sp, h1, h2⟩
    · exact .inl h
    · exact .inr ⟨z0.1, z1.1, D, sp, by rw [h1], h2⟩
/-- the nodes. -/
theorem read_nodes {H : Type} {enc : TypeId × Value → H} {W : World} {base n : Nat} {c0 : Value} {y0 : DataW H × List MemPlace} (hok : Cell.okWide Try.prog W .any base 22 c0) (g : DataW.trod enc Try.prog W 0 (fun _ => true) true n 22 [c0] = some y0) {φ0 : Phi} {m0 : Mem} (hst : St φ0 m0 W) (hno : RO m0) :
    ∃ (u : V) (N : List NodeA) (φ : Phi) (m : Mem), Ext φ0 φ ∧ Grow m0 m ∧ St φ m W ∧ RO m ∧ R φ u c0 ∧ (∃ els, Sl m u 3 els ∧ els.length = N.length ∧ ∀ (i : Nat) (nd : NodeA), N[i]? = some nd → ∃ tv, els[i]? = some [.int .u64 nd.addr, .int .i64 nd.words, tv] ∧ SlR m tv 1 (i64s nd.to)) ∧ (∀ nd, nd ∈ N → 0 ≤ nd.addr) ∧
      (N = [] ∨ ∃ D sp, y0.1 = .slice D sp ∧ D.length = N.length ∧ ∀ (i : Nat) (nd : NodeA), N[i]? = some nd → nd.to = [] ∨ ∃ (d0 d1 : DataW H) (D' sp' : List (DataW H)), D[i]? = some (DataW.agg [d0, d1, .slice D' sp']) ∧ D'.length = nd.to.length) := by
  have hz : Try.prog.cellsOf 45 = 3 := by kernel_rfl
  rcases Deep.open_slice Try.underlying22 g with ⟨hc, hy⟩ | ⟨a, len, cap, mm, n', D, Pl, hc, _, hl, hmx, hmm, hy, hel⟩
  · simp only [List.cons.injEq, and_true] at hc
    subst hc
    exact ⟨.nils, [], φ0, m0, Ext.refl _, Grow.refl _, hst, hno, by simp [R], ⟨[], ⟨rfl, rfl⟩, rfl, fun i nd h => by simp at h⟩, fun nd h => (by cases h), .inl rfl⟩
  · simp only [List.cons.injEq, and_true] at hc
    subst hc
    simp only [if_true] at hmm
    subst hmm
    have hhas : W.has Try.prog .any base a 45 mm := by
      simp only [Cell.okWide, Try.underlying22, Cell.ok] at hok
      exact hok.2.2
    obtain ⟨hs, c, t', fr, hc, hoff⟩ := has_cells hhas
    rw [hz] at hel
    obtain ⟨E, φ1, m1, a1, a2, a3, a4, a5⟩ := read_each hst hno (fun i φ m ev => ∃ cs', W.cells? 0 (a.add (i * 3)) 3 = some cs' ∧ ∃ nd, NodeQ φ m ev nd cs' (D i)) (fun ⟨cs', h1, nd, h2⟩ hx hg => ⟨cs', h1, nd, h2.mono hx hg⟩) mm (fun i hi φ m _ _ hs' hr' => by
      obtain ⟨cs', e1, e2⟩ := hel i hi
      obtain ⟨ev, nd, φ', m', b1, b2, b3, b4, b5⟩ := read_node (World.cells?_some e1).2.1 e2 hs' hr'
      exact ⟨ev, φ', m', b1, b2, b3, b4, cs', e1, nd, b5⟩)
    obtain ⟨q, hq⟩ := Deep.choose_lt (α := NodeA) (n := mm) (p := fun i nd => ∃ cs', W.cells? 0 (a.add (i * 3)) 3 = some cs' ∧ NodeQ φ1 m1 (E i) nd cs' (D i)) (fun i hi => by
      obtain ⟨cs', e1, nd, e2⟩ := a5 i hi
      exact ⟨nd, cs', e1, e2⟩)
    obtain ⟨φ, s0, s1, s2, s3, s4⟩ := read_slice a3 a4 (t := t') (fr := fr) (E := E) (z := 3) (by decide) hs hc hoff hl hmx (fun i hi => by
      obtain ⟨cs', _, _, _, tv, e, ht, _⟩ := hq i hi
      rw [e]
      refine ⟨rfl, ?_⟩
      intro v hv
      simp at hv
      rcases hv with rfl | rfl | rfl
      · rfl
      · rfl
      · exact ht.cell) (fun φ' hx i hi => by obtain ⟨cs', e1, _, e2, _⟩ := hq i hi; exact ⟨cs', e1, e2.ext hx⟩)
    have hget : ∀ {i : Nat} {nd : NodeA}, ((List.range len).map q)[i]? = some nd → i < len ∧ q i = nd := by
      intro i nd h
      have hi : i < len := by have := (List.getElem?_eq_some_iff.1 h).1; simpa using this
      rw [List.getElem?_map, List.getElem?_range hi] at h
      exact ⟨hi, by simpa using h⟩
    refine ⟨_, (List.range len).map q, φ, _, a1.trans s0, a2.trans (Grow.refl _).app, s1, s2, s3, ⟨_, ⟨s4, by simp [zOk]⟩, by simp, fun i nd h => ?_⟩, fun nd h => ?_, .inr ⟨_, _, by rw [hy], by simp, fun i nd h => ?_⟩⟩
    · obtain ⟨hi, rfl⟩ := hget h
      obtain ⟨cs', _, _, _, tv, e, ht, _⟩ := hq i (by omega)
      exact ⟨tv, by rw [List.getElem?_map, List.getElem?_range hi, ← e]; rfl, ht.app⟩
    · obtain ⟨i, hi⟩ := List.getElem?_of_mem h
      obtain ⟨hi, rfl⟩ := hget hi
      obtain ⟨cs', _, h0, _⟩ := hq i (by omega)
      exact h0
    · obtain ⟨hi, rfl⟩ := hget h
      obtain ⟨cs', _, _, _, tv, e, ht, hd⟩ := hq i (by omega)
      rcases hd with hd | ⟨d0, d1, D', sp', h1, h2⟩
      · exact .inl hd
      · exact .inr ⟨d0, d1, D', sp', by rw [List.getElem?_map, List.getElem?_range hi, ← h1]; rfl, h2⟩
/-- sizes that the machine has room for. -/
def Roomy (N : List NodeA) (R : List Int) : Prop := R.length ≤ 17592186044416 ∧ ∀ x, x ∈ N → x.to.length ≤ 17592186044416 ∧ 0 ≤ x.addr
/-- a graph that was handed in. -/
theorem read_net {H : Type} {enc : TypeId × Value → H} {W : World} {base : Nat} {v : Value} {d : DataW H} {ps : List MemPlace} {ts : List TypeId} {ds : List (DataW H)} {j : Nat} (hv : Value.okWide Try.prog W .any base 25 v) (h : DataW.Trod enc Try.prog W 0 (fun _ => true) true 25 v d ps) (hsz : (DataW.weightsEach Try.prog ts ds).all (· ≤ reachBytes) = true) (ht : ts[j]? = some 25) (hd : ds[j]? = some d) {φ0 : Phi} {m0 : Mem} (hst : St φ0 m0 W) (hno : RO m0) :
    ∃ (u : V) (l : List NodeA × List Int) (φ : Phi) (m : Mem), Ext φ0 φ ∧ Grow m0 m ∧ St φ m W ∧ RO m ∧ R φ u v ∧ (∃ nv rv, u = .agg [nv, rv] ∧ Gr m nv rv l.1 l.2) ∧ Fits l.1 l.2 ∧ Roomy l.1 l.2 := by
  simp only [Value.okWide, Try.underlying25] at hv
  obtain ⟨cs, rfl, hsz1, ts', hts, _, hcell⟩ := hv
  have hts' : ts' = [22, 23] := by
    have : Try.prog.cellTypes Try.prog.depth 25 = some [22, 23] := by kernel_rfl
    rw [this] at hts
    cases hts
    rfl
  subst hts'
  have h25 : Try.prog.cellsOf 25 = 2 := by kernel_rfl
  have h22 : Try.prog.cellsOf 22 = 1 := by kernel_rfl
  have h23 : Try.prog.cellsOf 23 = 1 := by kernel_rfl
  have hb45 : Try.prog.bytesOf 45 = 40 := by kernel_rfl
  have hb3 : Try.prog.bytesOf 3 = 8 := by kernel_rfl
  rw [h25] at hsz1
  obtain ⟨c0, c1, rfl⟩ : ∃ c0 c1, cs = #[c0, c1] := by
    obtain ⟨l⟩ := cs
    match l, hsz1 with
    | [c, c'], _ => exact ⟨c, c', rfl⟩
  obtain ⟨t0, ht0, hok0⟩ := hcell 0 c0 rfl
  simp only [List.length_cons, List.length_nil, Nat.zero_add, Nat.zero_mod, List.getElem?_cons_zero, Option.some.injEq] at ht0
  subst ht0
  obtain ⟨t1, ht1, hok1⟩ := hcell 1 c1 rfl
  simp at ht1
  subst ht1
  obtain ⟨fuel, hf⟩ := h
  obtain ⟨y0, y1, n, hx, _, g0, g1⟩ := trod_struct2 Try.underlying25 hf
  simp only [h22, h23] at g0 g1
  have g0' : DataW.trod enc Try.prog W 0 (fun _ => true) true n 22 [c0] = some y0 := g0
  have g1' : DataW.trod enc Try.prog W 0 (fun _ => true) true n 23 [c1] = some y1 := g1
  simp only [Prod.mk.injEq] at hx
  obtain ⟨rfl, _⟩ := hx
  obtain ⟨rv, rl, φ1, m1, b1, b2, b3, b4, b5, b6, b7⟩ := read_closed (e := 3) Try.underlying23 (z := 1) (by kernel_rfl) (by decide) hok1 g1' (fun x : Int => [V.int .i64 x]) (fun x => ⟨rfl, by simp [V.isCell]⟩) int_elem hst hno
  obtain ⟨nv, N, φ, m, a1, a2, a3, a4, a5, a6, a8, a7⟩ := read_nodes hok0 g0' b3 b4
  have w0 := fun x hx => DataW.weights_mem_each (P := Try.prog) ht hd x hx
  have wle : ∀ x, x ∈ DataW.weights Try.prog 25 (.agg [y0.1, y1.1]) → x ≤ 0x7ffffffff000 := fun x hx => of_decide_eq_true (List.all_eq_true.1 hsz _ (w0 x hx))
  have w22 : ∀ x, x ∈ DataW.weights Try.prog 22 y0.1 → x ≤ 0x7ffffffff000 := fun x hx => wle x (by rw [DataW.weights.eq_def]; simp only [Try.underlying25, List.map_cons, List.map_nil, Array.toList]; exact DataW.weights_mem_each (j := 0) rfl rfl x hx)
  have w23 : ∀ x, x ∈ DataW.weights Try.prog 23 y1.1 → x ≤ 0x7ffffffff000 := fun x hx => wle x (by rw [DataW.weights.eq_def]; simp only [Try.underlying25, List.map_cons, List.map_nil, Array.toList]; exact DataW.weights_mem_each (j := 1) rfl rfl x hx)
  have hrl : rl.length ≤ 17592186044416 := by
    rcases b7 with rfl | ⟨D, sp, e1, e2⟩
    · simp
    · have := w23 ((D.length + sp.length) * Try.prog.bytesOf 3) (by rw [e1]; simp [DataW.weights, Try.underlying23])
      rw [hb3] at this
      omega
  have hto : ∀ x, x ∈ N → x.to.length ≤ 17592186044416 := by
    intro x hx
    rcases a7 with rfl | ⟨D, sp, e1, e2, e3⟩
    · simp at hx
    · obtain ⟨i, hi⟩ := List.getElem?_of_mem hx
      rcases e3 i x hi with h0 | ⟨d0, d1, D', sp', h1, h2⟩
      · rw [h0]; decide
      · have := w22 ((D'.length + sp'.length) * Try.prog.bytesOf 3) (by
          rw [e1]
          simp only [DataW.weights, Try.underlying22, List.mem_cons, List.mem_append]
          refine .inr (.inl ?_)
          exact weightsAll_mem (List.mem_of_getElem? h1) _ (by simp [DataW.weights, Try.underlying45, DataW.weightsEach, Try.underlying23]))
        rw [hb3] at this
        omega
  refine ⟨.agg [nv, rv], (N, rl), φ, m, b1.trans a1, b2.trans a2, a3, a4, ?_, ⟨nv, rv, rfl, b6.grow a2, a6⟩, ⟨?_, Nat.lt_of_le_of_lt hrl (by decide), fun x hx => Nat.lt_of_le_of_lt (hto x hx) (by decide)⟩, hrl, fun x hx => ⟨hto x hx, a8 x hx⟩⟩
  · unfold R
    exact ⟨[c0, c1], rfl, Rs.cons a5 (Rs.one (b5.ext a1))⟩
  · show N.length < 2 ^ 60
    rcases a7 with rfl | ⟨D, sp, e1, e2, _⟩
    · exact Nat.two_pow_pos 60
    · have := w22 ((D.length + sp.length) * Try.prog.bytesOf 45) (by rw [e1]; simp [DataW.weights, Try.underlying22])
      rw [hb45] at this
      omega
end Go.Proofs.Ytnpefpiggklimaa.GraphBase
