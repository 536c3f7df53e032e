/- The plain law of the order in which a walk ahead leaves nodes. -/
import Derived.Test.YtnpefpiggklimaaGraphT
set_option linter.unusedVariables false
set_option linter.unusedSimpArgs false
namespace Go.AM.G
/-- each is a source, or one that leads to it comes behind it. -/
def PZ (to : Nat → List Nat) (src : List Nat) : List Nat → Prop
  | [] => True
  | x :: B => (x ∈ src ∨ ∃ q, q ∈ B ∧ x ∈ to q) ∧ PZ to src B
variable {to : Nat → List Nat} {src : List Nat} {n : Nat}
theorem PZ.put {q c : Nat} {cs : List Nat} (hq : q ∈ to c) : ∀ {A : List Nat}, PZ to src (A ++ c :: cs) → PZ to src (A ++ q :: c :: cs)
  | [], h => ⟨.inr ⟨c, by simp, hq⟩, h⟩
  | a :: A, h => by
    obtain ⟨h1, h2⟩ := h
    refine ⟨h1.imp id ?_, PZ.put hq h2⟩
    rintro ⟨x, hx, e⟩
    refine ⟨x, ?_, e⟩
    have hx : x ∈ A ++ c :: cs := hx
    show x ∈ A ++ q :: c :: cs
    simp at hx ⊢
    rcases hx with h | h | h <;> simp [h]
theorem PZ.root {r : Nat} (hr : r ∈ src) : ∀ {A : List Nat}, PZ to src A → PZ to src (A ++ [r])
  | [], _ => ⟨.inl hr, trivial⟩
  | a :: A, h => by
    obtain ⟨h1, h2⟩ := h
    refine ⟨h1.imp id ?_, PZ.root hr h2⟩
    rintro ⟨x, hx, e⟩
    exact ⟨x, List.mem_append.2 (.inl hx), e⟩
theorem PZ.get : ∀ {A : List Nat}, PZ to src A → ∀ {j x : Nat}, A[j]? = some x → x ∈ src ∨ ∃ j' q, j < j' ∧ A[j']? = some q ∧ x ∈ to q
  | [], _, j, x, h => by simp at h
  | a :: A, h, 0, x, e => by
    obtain ⟨h1, _⟩ := h
    simp at e
    subst e
    refine h1.imp id ?_
    rintro ⟨q, hq, e⟩
    obtain ⟨i, hi⟩ := List.getElem?_of_mem hq
    exact ⟨i + 1, q, by omega, by simpa using hi, e⟩
  | a :: A, h, j + 1, x, e => by
    refine (PZ.get h.2 (j := j) (x := x) (by simpa using e)).imp id ?_
    rintro ⟨j', q, h1, h2, h3⟩
    exact ⟨j' + 1, q, by omega, by simpa using h2, h3⟩
structure OS where
  seen : Nat → Bool
  out : List Nat
  calls : List (Nat × Nat)
def OS.all (s : OS) : List Nat := s.out ++ s.calls.map (·.1)
structure OI (to : Nat → List Nat) (src : List Nat) (n : Nat) (s : OS) : Prop where
  nd : s.all.Nodup
  seen : ∀ x, s.seen x = true ↔ x ∈ s.all
  bnd : ∀ x, x ∈ s.all → x < n
  live : ∀ x, x ∈ s.all → ∃ r, r ∈ src ∧ Rch to r x
  edge : ∀ c, c ∈ s.calls → c.2 ≤ (to c.1).length ∧ ∀ q, q ∈ (to c.1).take c.2 → s.seen q = true
  done : ∀ x, x ∈ s.out → ∀ q, q ∈ to x → s.seen q = true
  par : PZ to src s.all
def OS.toTS (s : OS) : TS := ⟨fun x => if s.seen x then 1 else 0, fun _ => 0, fun _ => false, fun _ => 0, [], 0, s.calls⟩
theorem OI.pop {s : OS} (h : OI to src n s) {c i : Nat} {rest : List (Nat × Nat)} (hc : s.calls = (c, i) :: rest) (hi : i = (to c).length) : OI to src n ⟨s.seen, s.out ++ [c], rest⟩ := by
  have he : (OS.all ⟨s.seen, s.out ++ [c], rest⟩) = s.all := by simp [OS.all, hc]
  refine ⟨by rw [he]; exact h.nd, by rw [he]; exact h.seen, by rw [he]; exact h.bnd, by rw [he]; exact h.live, fun d hd => h.edge d (by rw [hc]; exact List.mem_cons_of_mem _ hd), fun x hx q hq => ?_, by rw [he]; exact h.par⟩
  rcases List.mem_append.1 hx with hx | hx
  · exact h.done x hx q hq
  · rw [List.mem_singleton.1 hx] at hq
    refine (h.edge (c, i) (by rw [hc]; simp)).2 q ?_
    subst hi
    simpa using hq
theorem take_succ_mem {l : List Nat} {i q x : Nat} (hq : l[i]? = some q) (hx : x ∈ l.take (i + 1)) : x ∈ l.take i ∨ x = q := by
  obtain ⟨h1, h2⟩ := List.getElem?_eq_some_iff.1 hq
  rw [List.take_succ_eq_append_getElem h1, h2] at hx
  exact (List.mem_append.1 hx).imp id List.mem_singleton.1
theorem OI.skip {s : OS} (h : OI to src n s) {c i q : Nat} {rest : List (Nat × Nat)} (hc : s.calls = (c, i) :: rest) (hq : (to c)[i]? = some q) (hs : s.seen q = true) : OI to src n ⟨s.seen, s.out, (c, i + 1) :: rest⟩ := by
  have he : (OS.all ⟨s.seen, s.out, (c, i + 1) :: rest⟩) = s.all := by simp [OS.all, hc]
  refine ⟨by rw [he]; exact h.nd, by rw [he]; exact h.seen, by rw [he]; exact h.bnd, by rw [he]; exact h.live, fun d hd => ?_, h.done, by rw [he]; exact h.par⟩
  rcases List.mem_cons.1 hd with rfl | hd
  · refine ⟨(List.getElem?_eq_some_iff.1 hq).1, fun x hx => ?_⟩
    rcases take_succ_mem hq hx with hx | rfl
    · exact (h.edge (c, i) (by rw [hc]; simp)).2 x hx
    · exact hs
  · exact h.edge d (by rw [hc]; exact List.mem_cons_of_mem _ hd)
theorem OI.push {s : OS} (h : OI to src n s) {c i q : Nat} {rest : List (Nat × Nat)} (hc : s.calls = (c, i) :: rest) (hq : (to c)[i]? = some q) (hqn : q < n) (hs : s.seen q = false) : OI to src n ⟨upd s.seen q true, s.out, (q, 0) :: (c, i + 1) :: rest⟩ := by
  have ha : s.all = s.out ++ c :: rest.map (·.1) := by simp [OS.all, hc]
  have he : (OS.all ⟨upd s.seen q true, s.out, (q, 0) :: (c, i + 1) :: rest⟩) = s.out ++ q :: c :: rest.map (·.1) := by simp [OS.all]
  have hqa : q ∉ s.all := fun hm => by rw [(h.seen q).2 hm] at hs; cases hs
  have hmem : ∀ x, x ∈ s.out ++ q :: c :: rest.map (·.1) ↔ x = q ∨ x ∈ s.all := fun x => by
    rw [ha]; simp only [List.mem_append, List.mem_cons]
    constructor
    · rintro (h | h | h | h) <;> simp [h]
    · rintro (h | h | h | h) <;> simp [h]
  have hup : ∀ x, s.seen x = true → upd s.seen q true x = true := fun x hx => by unfold upd; split <;> simp [hx]
  refine ⟨?_, fun x => ?_, fun x hx => ?_, fun x hx => ?_, fun d hd => ?_, fun x hx y hy => hup y (h.done x hx y hy), ?_⟩
  · rw [he]
    have := h.nd
    rw [ha] at this hqa
    rw [List.nodup_append] at this ⊢
    obtain ⟨h1, h2, h3⟩ := this
    refine ⟨h1, List.nodup_cons.2 ⟨fun hm => hqa (List.mem_append.2 (.inr hm)), h2⟩, fun a ha' b hb => ?_⟩
    rcases List.mem_cons.1 hb with rfl | hb
    · rintro rfl; exact hqa (List.mem_append.2 (.inl ha'))
    · exact h3 a ha' b hb
  · rw [he, hmem]
    by_cases e : x = q
    · subst e; simp [upd_self]
    · rw [← h.seen x]; simp [upd_ne e, e]
  · rw [he] at hx
    rcases (hmem x).1 hx with rfl | hx
    · exact hqn
    · exact h.bnd x hx
  · rw [he] at hx
    rcases (hmem x).1 hx with rfl | hx
    · obtain ⟨r, h1, h2⟩ := h.live c (by rw [ha]; simp)
      exact ⟨r, h1, .step h2 (List.mem_of_getElem? hq)⟩
    · exact h.live x hx
  · rcases List.mem_cons.1 hd with rfl | hd
    · exact ⟨Nat.zero_le _, fun x hx => by simp at hx⟩
    · rcases List.mem_cons.1 hd with rfl | hd
      · refine ⟨(List.getElem?_eq_some_iff.1 hq).1, fun x hx => ?_⟩
        rcases take_succ_mem hq hx with hx | rfl
        · exact hup x ((h.edge (c, i) (by rw [hc]; simp)).2 x hx)
        · exact upd_self
      · have := h.edge d (by rw [hc]; exact List.mem_cons_of_mem _ hd)
        exact ⟨this.1, fun x hx => hup x (this.2 x hx)⟩
  · rw [he]
    have := h.par
    rw [ha] at this
    exact PZ.put (List.mem_of_getElem? hq) this
theorem OI.start {s : OS} (h : OI to src n s) {r : Nat} (hc : s.calls = []) (hr : r ∈ src) (hrn : r < n) (hs : s.seen r = false) : OI to src n ⟨upd s.seen r true, s.out, [(r, 0)]⟩ := by
  have ha : s.all = s.out := by simp [OS.all, hc]
  have he : (OS.all ⟨upd s.seen r true, s.out, [(r, 0)]⟩) = s.out ++ [r] := by simp [OS.all]
  have hra : r ∉ s.out := fun hm => by rw [(h.seen r).2 (ha ▸ hm)] at hs; cases hs
  have hup : ∀ x, s.seen x = true → upd s.seen r true x = true := fun x hx => by unfold upd; split <;> simp [hx]
  refine ⟨?_, fun x => ?_, fun x hx => ?_, fun x hx => ?_, fun d hd => ?_, fun x hx y hy => hup y (h.done x hx y hy), ?_⟩
  · rw [he, List.nodup_append]
    have := h.nd
    rw [ha] at this
    refine ⟨this, by simp, fun a h1 b h2 => ?_⟩
    rw [List.mem_singleton.1 h2]
    rintro rfl; exact hra h1
  · rw [he]
    by_cases e : x = r
    · subst e; simp [upd_self]
    · have := h.seen x
      rw [ha] at this
      simp [upd_ne e, e, this]
  · rw [he] at hx
    rcases List.mem_append.1 hx with hx | hx
    · exact h.bnd x (ha ▸ hx)
    · rw [List.mem_singleton.1 hx]; exact hrn
  · rw [he] at hx
    rcases List.mem_append.1 hx with hx | hx
    · exact h.live x (ha ▸ hx)
    · rw [List.mem_singleton.1 hx]; exact ⟨r, hr, .refl r⟩
  · rw [List.mem_singleton.1 hd]
    exact ⟨Nat.zero_le _, fun x hx => by simp at hx⟩
  · rw [he]
    have := h.par
    rw [ha] at this
    exact PZ.root hr this
/-- what an order is: each that is reached, once; each but a source comes behind one that leads to it. -/
structure OrdL (to : Nat → List Nat) (src : List Nat) (n : Nat) (L : List Nat) : Prop where
  nd : L.Nodup
  bnd : ∀ x, x ∈ L → x < n
  live : ∀ x, x ∈ L ↔ ∃ r, r ∈ src ∧ Rch to r x
  par : ∀ (j x : Nat), L[j]? = some x → x ∈ src ∨ ∃ j' q, j' < j ∧ L[j']? = some q ∧ x ∈ to q
theorem OI.ord {s : OS} (h : OI to src n s) (hc : s.calls = []) (hs : ∀ r, r ∈ src → s.seen r = true) : OrdL to src n s.out.reverse := by
  have ha : s.all = s.out := by simp [OS.all, hc]
  have hnd := h.nd
  have hbn := h.bnd
  have hlv := h.live
  have hpa := h.par
  have hse := h.seen
  rw [ha] at hnd hbn hlv hpa
  refine ⟨List.pairwise_reverse.2 (List.Pairwise.imp (fun h => Ne.symm h) hnd), fun x hx => hbn x (List.mem_reverse.1 hx), fun x => ?_, fun j x hx => ?_⟩
  · rw [List.mem_reverse]
    refine ⟨hlv x, ?_⟩
    rintro ⟨r, hr, hx⟩
    have := hx.closed (fun y => y ∈ s.out) (fun p q hp hq => by have := h.done p hp q hq; rwa [h.seen q, ha] at this) (by have := hs r hr; rwa [h.seen r, ha] at this)
    exact this
  · have hj : j < s.out.length := by have := (List.getElem?_eq_some_iff.1 hx).1; simpa using this
    rw [List.getElem?_reverse hj] at hx
    refine (hpa.get hx).imp id ?_
    rintro ⟨j', q, h1, h2, h3⟩
    have hj' := (List.getElem?_eq_some_iff.1 h2).1
    refine ⟨s.out.length - 1 - j', q, by omega, ?_, h3⟩
    rw [List.getElem?_reverse (by omega)]
    rw [← h2]
    congr 1
    omega
end Go.AM.G
