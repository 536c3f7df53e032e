/- The regions that draw their order, as the compile check leaves them. -/
import Derived.Test.YtdfbfcohindpnaaAmDraw2
set_option linter.unusedVariables false
set_option linter.unusedSimpArgs false
namespace Go.AM
open Go
theorem layOut_get {aops : List AOper} {bs : List Nat} : ∀ {order prev : List Nat} {k : Nat} {x : Nat × AOper}, x ∈ layOut aops bs prev k order → ∃ o, aops[x.1]? = some o ∧ x.2.dst = o.dst ∧ x.2.g = o.g ∧ x.2.op = o.op
  | [], _, _, x, h => by simp [layOut] at h
  | y :: r, prev, k, x, h => by
    simp only [layOut] at h
    split at h
    case h_2 => simp at h
    rename_i o ho
    split at h
    all_goals
      rcases List.mem_cons.1 h with rfl | h
      · exact ⟨o, ho, rfl, rfl, rfl⟩
      · exact layOut_get h
theorem mapM_get {α β : Type} {f : α → Option β} : ∀ {l : List α} {r : List β}, l.mapM f = some r → ∀ {i : Nat} {y : β}, r[i]? = some y → ∃ x, l[i]? = some x ∧ f x = some y
  | [], r, h, i, y, hy => by simp at h; subst h; simp at hy
  | a :: l, r, h, i, y, hy => by
    simp only [List.mapM_cons, Option.bind_eq_bind, Option.bind_eq_some_iff, Option.pure_def, Option.some.injEq] at h
    obtain ⟨b, hb, r', hr, rfl⟩ := h
    cases i with
    | zero => simp at hy; subst hy; exact ⟨a, rfl, hb⟩
    | succ i => simpa using mapM_get hr (i := i) (by simpa using hy)
theorem pairsA_split {bs : List Nat} : ∀ {l : List (Nat × AOper)}, pairsA bs l = true → ∀ p x s, l = p ++ x :: s → ∀ z ∈ p, pairA bs z x = true
  | [], _, p, x, s, e, z, hz => by simp at e
  | a :: l, h, p, x, s, e, z, hz => by
    simp only [pairsA, Bool.and_eq_true, List.all_eq_true] at h
    cases p with
    | nil => simp at hz
    | cons b p =>
      simp only [List.cons_append, List.cons.injEq] at e
      obtain ⟨rfl, e⟩ := e
      rcases List.mem_cons.1 hz with rfl | hz
      · exact h.1 x (by rw [e]; simp)
      · exact pairsA_split h.2 p x s e z hz
theorem nodupN_split : ∀ {l : List Nat}, nodupN l = true → ∀ p x s, l = p ++ x :: s → ∀ z, z ∈ p ∨ z ∈ s → z ≠ x
  | [], _, p, x, s, e, z, hz => by simp at e
  | a :: l, h, p, x, s, e, z, hz => by
    simp only [nodupN, Bool.and_eq_true, Bool.not_eq_true', List.contains_eq_mem, decide_eq_false_iff_not] at h
    cases p with
    | nil =>
      simp only [List.nil_append, List.cons.injEq] at e
      obtain ⟨rfl, rfl⟩ := e
      rcases hz with hz | hz
      · simp at hz
      · intro e; subst e; exact h.1 hz
    | cons b p =>
      simp only [List.cons_append, List.cons.injEq] at e
      obtain ⟨rfl, e⟩ := e
      rcases hz with hz | hz
      · rcases List.mem_cons.1 hz with rfl | hz
        · intro e'; exact h.1 (by rw [e, e']; simp)
        · exact nodupN_split h.2 p x s e z (.inl hz)
      · exact nodupN_split h.2 p x s e z (.inr hz)
theorem aheadOk_split {ops : Array Oper} : ∀ {l prev : List Nat}, aheadOk ops prev l = true → ∀ p x s, l = p ++ x :: s → ∀ o, ops[x]? = some o → ∀ e ∈ edges o, e ∈ prev ++ p
  | [], prev, _, p, x, s, e, o, ho, i, hi => by simp at e
  | a :: l, prev, h, p, x, s, e, o, ho, i, hi => by
    simp only [aheadOk, Bool.and_eq_true] at h
    cases p with
    | nil =>
      simp only [List.nil_append, List.cons.injEq] at e
      obtain ⟨rfl, rfl⟩ := e
      have h1 := h.1
      rw [ho] at h1
      simp only [List.all_eq_true] at h1
      simpa using h1 i hi
    | cons b p =>
      simp only [List.cons_append, List.cons.injEq] at e
      obtain ⟨rfl, e⟩ := e
      have := aheadOk_split h.2 p x s e o ho i hi
      simp only [List.append_assoc, List.mem_append, List.mem_cons, List.not_mem_nil, or_false] at this ⊢
      rcases this with h | h | h
      · exact .inl h
      · exact .inr (.inl h)
      · exact .inr (.inr h)
theorem drawOk {P : Program} {call : CallF} (hm : P.follows .mixedOrders = true) (hcall : SoundCall P call) (hfr : FrameC call) : DrawOk P call := by
  intro N id ops k al hc φ fr m A w fr' m' Q hrun hst hA hQ
  unfold compDraw at hc
  simp only [Option.bind_eq_bind, Option.bind_eq_some_iff, Option.pure_def] at hc
  obtain ⟨aops, haops, hc⟩ := hc
  generalize hbs : before ops = bs at hc
  generalize hord : canon bs (aops.map fun o => clsOf o.op) ops.size = order at hc
  generalize hl : layOut aops bs [] 0 order = l at hc
  split at hc
  case isFalse => cases hc
  rename_i hchk
  simp only [Bool.and_eq_true, List.all_eq_true, List.mem_range, decide_eq_true_eq, beq_iff_eq] at hchk
  obtain ⟨⟨⟨hlen, hcov⟩, hnod⟩, ⟨hlt, hfst⟩, ⟨hah, hbo⟩, ⟨hpa, hlo⟩, _⟩ := hchk
  simp only [Option.some.injEq, Prod.mk.injEq] at hc
  obtain ⟨hk, rfl⟩ := hc
  rw [hk] at hlo
  have hsplit : ∀ {p : List (Nat × AOper)} {x s}, l = p ++ x :: s → order = p.map (·.1) ++ x.1 :: s.map (·.1) := fun e => by rw [← hfst, e]; simp
  have hcov' : ∀ j, j < ops.size → ∃ x ∈ l, x.1 = j := fun j hj => by
    have := hcov j hj
    rw [← hfst] at this
    simpa using this
  refine wp_region_any hm ?_
  have h1 := Stp.keep hst k
  have h2 : Stp φ (m ++ List.replicate k .dead) w φ (m ++ List.replicate k .dead) { w with drawn := w.drawn + 1 } := Stp.same h1.st rfl rfl rfl rfl
  refine draw_main (base := m.length) (k := k) (ops := ops) (bs := bs) (N := N) hcall hfr hbo ops.size (c := l) hlen ?_ (by simp) ?_ ?_ hrun h2.st hA ?_
  · skip
    refine ⟨fun x hx => ?_, fun x hx => hlo x hx, pairsA_split hpa, fun p x s e z hz => ?_, fun p x s e o ho e' he => ?_, fun j hj hn => ?_⟩
    · rw [← hl] at hx
      obtain ⟨o, g1, g2, g3, g4⟩ := layOut_get hx
      obtain ⟨o', g5, g6⟩ := mapM_get haops g1
      simp only [compOper, Option.bind_eq_bind, Option.bind_eq_some_iff, Option.pure_def, Option.some.injEq] at g6
      obtain ⟨d, e1, g, e2, op, e3, rfl⟩ := g6
      exact ⟨o', by simpa using g5, by rw [g2]; exact e1, by rw [g3]; exact e2, by rw [g4]; exact e3⟩
    · refine nodupN_split hnod _ _ _ (hsplit e) z.1 ?_
      rcases hz with hz | hz
      · exact .inl (List.mem_map.2 ⟨z, hz, rfl⟩)
      · exact .inr (List.mem_map.2 ⟨z, hz, rfl⟩)
    · have hin := aheadOk_split hah _ _ _ (hsplit e) o ho e' he
      simp only [List.nil_append, List.mem_map] at hin
      obtain ⟨y, hy, rfl⟩ := hin
      refine ⟨fun z hz => ?_, ?_⟩
      · obtain ⟨p1, p2, rfl⟩ := List.append_of_mem hy
        intro hzy
        refine nodupN_split hnod (p1.map (·.1)) y.1 (p2.map (·.1) ++ x.1 :: s.map (·.1)) (by rw [hsplit e]; simp) z.1 (.inr ?_) hzy
        rcases List.mem_cons.1 hz with rfl | hz
        · simp
        · simp only [List.mem_append, List.mem_cons, List.mem_map]
          exact .inr (.inr ⟨z, hz, rfl⟩)
      · refine hlt y.1 ?_
        rw [hsplit e]
        simp only [List.mem_append, List.mem_map]
        exact .inl ⟨y, hy, rfl⟩
    · obtain ⟨x, hx, e⟩ := hcov' j hj
      exact absurd e (hn x hx)
  · intro j hj
    constructor
    · exact fun _ => hcov' j hj
    · intro _
      simp [Array.getD, hj]
  · intro x hx t ht
    have := hlo x hx
    simp only [lonely, ht, Bool.and_eq_true, decide_eq_true_eq] at this
    have htk := this.2.2.1
    refine ⟨?_, hst.fresh _ (by omega)⟩
    rw [List.getElem?_append_right (by omega)]
    simp [List.getElem?_replicate, htk]
  · intro φ' A' w' h3 h4
    have h5 : StpE (m.length ≤ ·) φ m w φ' m' w' := (StpE.weaken (fun _ h => h.elim) (h1.trans h2)).trans h3
    exact hQ φ' A' w' { h5 with old := fun b hb _ => h5.old b hb (by omega) } h4
theorem callN_ok {P : Program} {F : Nat → Option AFunc} {X : Told} (hm : P.follows .mixedOrders = true) (hF : TableOk P F) (hX : ToldOk P X) (hR : ToldFr X) : ∀ n, SoundCall P (callN F X n) :=
  callN_sound hF hX (fun n h => drawOk hm h (callN_fr hF hR n))
end Go.AM
