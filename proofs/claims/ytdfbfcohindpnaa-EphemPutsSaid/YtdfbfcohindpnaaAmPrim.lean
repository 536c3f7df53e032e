/- Each operation of the intermediate code that calls nothing does what the model's does. -/
import Derived.Test.YtdfbfcohindpnaaAmRel
set_option linter.unusedVariables false
set_option linter.unusedSimpArgs false
namespace Go.AM
open Go

structure RF (φ : Phi) (N : Nat) (fr : Frame) (A : Act) : Prop where
  size : A.tmps.size = N
  defers : A.defers = []
  rel : ∀ i, i < N → R φ (fr i) (A.tmps.getD i Go.undef)
theorem RF.ext {φ φ' : Phi} {N : Nat} {fr : Frame} {A : Act} (h : RF φ N fr A) (he : Ext φ φ') : RF φ' N fr A :=
  ⟨h.size, h.defers, fun i hi => (h.rel i hi).ext he⟩
theorem RF.putO {φ : Phi} {N : Nat} {fr : Frame} {A : Act} {d : Option Nat} {v : V} {c : Value} (h : RF φ N fr A) (_hd : ∀ i, d = some i → i < N) (hv : R φ v c) : RF φ N (putO fr d v) (A.put d c) := by
  cases d with
  | none => exact h
  | some i =>
    refine ⟨by simp [Act.put, h.size], h.defers, fun j hj => ?_⟩
    simp only [AM.putO, put, Act.put]
    by_cases e : j = i
    · subst e
      simp [h.size, hj, hv]
    · rw [if_neg e]
      have := h.rel j hj
      simpa [Array.getD_eq_getD_getElem?, Array.getElem?_setIfInBounds_ne (Ne.symm e)] using this
theorem R_undef (φ : Phi) : R φ undef Go.undef := by simp only [undef, R]; exact ⟨[], rfl, rfl⟩
theorem RF.undef {φ : Phi} {N : Nat} {fr : Frame} {A : Act} {d : Option Nat} (h : RF φ N fr A) (hd : ∀ i, d = some i → i < N) : RF φ N (AM.putO fr d undef) (A.put d Go.undef) :=
  h.putO hd (R_undef φ)

theorem cellOf_sound {φ : Phi} {c : Value} {v : V} (h : cellOf c = some v) : R φ v c ∧ v.isCell = true := by
  unfold cellOf at h
  split at h <;> first | (cases h; exact ⟨by simp [R], rfl⟩) | cases h
theorem mapM_cells {φ : Phi} : ∀ {l : List Value} {vs : List V}, l.mapM cellOf = some vs → Rs φ vs l ∧ ∀ v ∈ vs, v.isCell = true
  | [], vs, h => by simp at h; subst h; exact ⟨rfl, by simp⟩
  | c :: l, vs, h => by
    simp only [List.mapM_cons, Option.pure_def, Option.bind_eq_bind, Option.bind_eq_some_iff] at h
    obtain ⟨v, hv, us, hus, e⟩ := h
    cases e
    obtain ⟨r1, r2⟩ := cellOf_sound (φ := φ) hv
    obtain ⟨s1, s2⟩ := mapM_cells (φ := φ) hus
    refine ⟨by simp only [Rs]; exact ⟨c, l, rfl, r1, s1⟩, fun u hu => ?_⟩
    rcases List.mem_cons.1 hu with rfl | hu
    · exact r2
    · exact s2 u hu
theorem ofV_sound {φ : Phi} {c : Value} {v : V} (h : ofV c = some v) : R φ v c := by
  unfold ofV at h
  split at h
  · rename_i cs
    rw [Option.map_eq_some_iff] at h
    obtain ⟨l, hl, rfl⟩ := h
    simp only [R]
    exact ⟨cs.toList, by simp, (mapM_cells hl).1⟩
  · cases h; simp only [undef, R]; exact ⟨[], rfl, rfl⟩
  · exact (cellOf_sound h).1
theorem argC_sound {φ : Phi} {N : Nat} {fr : Frame} {A : Act} (hA : RF φ N fr A) {x : Operand} {a : Arg} (h : argC N x = some a) : R φ (a.get fr) (A.eval x) := by
  cases x with
  | tmp t =>
    simp only [argC] at h
    split at h
    · rename_i ht
      cases h
      exact hA.rel t ht
    · cases h
  | const c =>
    simp only [argC, Option.map_eq_some_iff] at h
    obtain ⟨v, hv, rfl⟩ := h
    exact ofV_sound hv
  | global g => cases h
  | func f =>
    simp only [argC] at h
    cases h
    simp only [Arg.get, R, Act.eval]
    exact ⟨[], [], rfl, rfl, rfl⟩
theorem argsC_sound {φ : Phi} {N : Nat} {fr : Frame} {A : Act} (hA : RF φ N fr A) : ∀ {l : List Operand} {as : List Arg}, l.mapM (argC N) = some as → Rs φ (as.map (·.get fr)) (l.map A.eval)
  | [], as, h => by simp at h; subst h; rfl
  | x :: l, as, h => by
    simp only [List.mapM_cons, Option.pure_def, Option.bind_eq_bind, Option.bind_eq_some_iff] at h
    obtain ⟨a, ha, us, hus, e⟩ := h
    cases e
    simp only [List.map_cons, Rs]
    exact ⟨_, _, rfl, argC_sound hA ha, argsC_sound hA hus⟩

/-- what an operation does, and how it stands to the abstract one. -/
def Does (E : Nat → Prop) (P : Program) (o : Oper) (A : Act) (w : World) (φ : Phi) (m : Mem) (v : V) (m' : Mem) : Prop :=
  ∃ cv w' φ', ((execOp A.eval o).run P w = .ok (.value cv) w' ∨ ((execOp A.eval o).run P w = .ok .skip w' ∧ cv = Go.undef)) ∧ StpE E φ m w φ' m' w' ∧ R φ' v cv
abbrev Does0 := Does (fun _ => False)
theorem Does.weaken {E E' : Nat → Prop} (hE : ∀ b, E b → E' b) {P : Program} {o : Oper} {A : Act} {w : World} {φ : Phi} {m : Mem} {v : V} {m' : Mem} (h : Does E P o A w φ m v m') : Does E' P o A w φ m v m' :=
  let ⟨cv, w', φ', a, b, c⟩ := h
  ⟨cv, w', φ', a, b.weaken hE, c⟩
theorem Does.quiet {P : Program} {o : Oper} {A : Act} {w : World} {φ : Phi} {m : Mem} {v : V} {cv : Value} (h : St φ m w) (hr : (execOp A.eval o).run P w = .ok (.value cv) w) (hv : R φ v cv) : Does0 P o A w φ m v m :=
  ⟨cv, w, φ, .inl hr, Stp.refl h, hv⟩

section
variable {P : Program} {N : Nat} {φ : Phi} {fr : Frame} {m : Mem} {A : Act} {w : World} {o : Oper} {ao : AOp} {v : V} {m' : Mem}

theorem does_mv (hst : St φ m w) (hA : RF φ N fr A) {x : Operand} (ho : o.op = .move x ∨ o.op = .assign x) {a : Arg} (ha : argC N x = some a) {tgt : Option Nat} (hp : prim (.mv a) tgt fr m = some (v, m')) : Does0 P o A w φ m v m' := by
  simp only [prim] at hp
  cases hp
  refine Does.quiet hst ?_ (argC_sound hA ha)
  rcases ho with ho | ho <;> simp [execOp, ho]
theorem does_pick (hst : St φ m w) (hA : RF φ N fr A) {c x y : Operand} (ho : o.op = .pick c x y) {c' x' y' : Arg} (hc : argC N c = some c') (hx : argC N x = some x') (hy : argC N y = some y')
    {tgt : Option Nat} (hp : prim (.pick c' x' y') tgt fr m = some (v, m')) : Does0 P o A w φ m v m' := by
  simp only [prim] at hp
  split at hp
  · rename_i t ht
    cases hp
    have hb := argC_sound hA hc
    rw [ht] at hb
    simp only [R] at hb
    refine Does.quiet hst (cv := if t then A.eval x else A.eval y) ?_ ?_
    · simp [execOp, ho, hb, asBool]
    · cases t
      · exact argC_sound hA hy
      · exact argC_sound hA hx
  · cases hp
theorem zeroT_some {t : TypeId} {z : List V} (h : zeroT P t = some z) : ∃ i zv, P.info? t = some i ∧ i.zero = some zv ∧ (∀ φ, Rs φ z zv.cells.toList) ∧ (∀ v ∈ z, v.isCell = true) ∧ z.length = i.size ∧ 0 < z.length := by
  unfold zeroT at h
  split at h
  · rename_i i hi
    simp only [Option.bind_eq_some_iff] at h
    obtain ⟨l, ⟨zv, hz, hl⟩, h⟩ := h
    split at h
    · rename_i hlen
      cases h
      exact ⟨i, zv, hi, hz, fun φ => (mapM_cells hl).1, (mapM_cells (φ := fun _ => none) hl).2, hlen.1, hlen.2⟩
    · cases h
  · cases h
theorem run_zero {t : TypeId} {i : TypeInfo} {zv : Value} (w : World) (hi : P.info? t = some i) (hz : i.zero = some zv) : (zeroValue t).run P w = .ok zv w := by
  simp [zeroValue, typeInfo, hi, hz]
theorem does_alloc (hst : St φ m w) {e : TypeId} (ho : o.op = .alloc e) {z : List V} (hz : zeroT P e = some z) {tgt : Option Nat} (hn : ∀ i, tgt = some i → φ i = none) (hp : prim (.alloc z) tgt fr m = some (v, m')) : Does (fun b => tgt = some b) P o A w φ m v m' := by
  simp only [prim, Option.map_eq_some_iff] at hp
  obtain ⟨⟨b, m1⟩, hb, e1⟩ := hp
  cases e1
  obtain ⟨i, zv, hi, hzv, hr, hc, hl, _⟩ := zeroT_some hz
  refine ⟨.pointer (some ⟨w.heap.size, 0, none⟩), w.alloc (.cells zv.cells e), _, .inl ?_, Stp.new hst (els := [z]) (z := z.length) hb hn (c := zv.cells) (e := e) (a := zv.cells.toList) (y := []) ?_ (by simp) (by simpa using hr φ) rfl rfl rfl rfl, ?_⟩
  · simp [execOp, ho, Instr.alloc, run_zero w hi hzv, newVar, newRow]
  · intro el hel
    simp at hel; subst hel
    exact ⟨rfl, hc⟩
  · simp only [R]
    exact ⟨_, Phi.set_same _ _ _, by simp⟩
theorem does_box (hst : St φ m w) (hA : RF φ N fr A) {e : TypeId} {x : Operand} (ho : o.op = .box e x) {a : Arg} (ha : argC N x = some a) {tgt : Option Nat} (hn : ∀ i, tgt = some i → φ i = none) (hp : prim (.box a) tgt fr m = some (v, m')) : Does (fun b => tgt = some b) P o A w φ m v m' := by
  simp only [prim] at hp
  split at hp
  · rename_i hall
    simp only [Option.map_eq_some_iff] at hp
    obtain ⟨⟨b, m1⟩, hb, e1⟩ := hp
    cases e1
    have hx := argC_sound hA ha
    refine ⟨.pointer (some ⟨w.heap.size, 0, none⟩), w.alloc (.cells (A.eval x).cells e), _, .inl ?_, Stp.new hst (els := [(a.get fr).cells]) (z := (a.get fr).cells.length) hb hn (c := (A.eval x).cells) (e := e) (a := (A.eval x).cells.toList) (y := []) ?_ (by simp) (by simpa using hx.cells) rfl rfl rfl rfl, ?_⟩
    · simp [execOp, ho, Instr.box, newVar, newRow]
    · intro el hel
      simp at hel; subst hel
      exact ⟨rfl, fun v hv => List.all_eq_true.1 hall v hv⟩
    · simp only [R]
      exact ⟨_, Phi.set_same _ _ _, by simp⟩
  · cases hp
end
end Go.AM
