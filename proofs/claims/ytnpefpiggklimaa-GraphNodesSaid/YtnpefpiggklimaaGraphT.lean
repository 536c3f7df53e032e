/- The plain law of Tarjan's way, step by step. -/
import Derived.Test.YtnpefpiggklimaaAmMem
set_option linter.unusedVariables false
set_option linter.unusedSimpArgs false
namespace Go.AM.G
/-- what is reached. -/
inductive Rch (to : Nat → List Nat) : Nat → Nat → Prop
  | refl (p : Nat) : Rch to p p
  | step {p q r : Nat} : Rch to p q → r ∈ to q → Rch to p r
variable {to : Nat → List Nat} {n : Nat}
theorem Rch.trans {a b c : Nat} (h : Rch to a b) (k : Rch to b c) : Rch to a c := by
  induction k with
  | refl => exact h
  | step _ e ih => exact .step ih e
theorem Rch.one {a b : Nat} (h : b ∈ to a) : Rch to a b := .step (.refl a) h
/-- a closed set is never left. -/
theorem Rch.closed {a b : Nat} (h : Rch to a b) (S : Nat → Prop) (hS : ∀ p q, S p → q ∈ to p → S q) (ha : S a) : S b := by
  induction h with
  | refl => exact ha
  | step _ e ih => exact hS _ _ ih e
def upd {α : Type} (f : Nat → α) (p : Nat) (v : α) : Nat → α := fun x => if x = p then v else f x
theorem upd_self {α : Type} {f : Nat → α} {p : Nat} {v : α} : upd f p v p = v := by simp [upd]
theorem upd_ne {α : Type} {f : Nat → α} {p x : Nat} {v : α} (h : x ≠ p) : upd f p v x = f x := by simp [upd, h]
structure TS where
  ix : Nat → Nat
  low : Nat → Nat
  on : Nat → Bool
  parts : Nat → Nat
  stack : List Nat
  next : Nat
  calls : List (Nat × Nat)
/-- m is the least that hangs together with p. -/
def IsPart (to : Nat → List Nat) (p m : Nat) : Prop := (Rch to p m ∧ Rch to m p) ∧ ∀ q, Rch to p q → Rch to q p → m ≤ q
structure Inv (to : Nat → List Nat) (n : Nat) (s : TS) : Prop where
  bnd : ∀ p, s.ix p ≠ 0 → p < n
  ix_le : ∀ p, s.ix p ≤ s.next
  ix_inj : ∀ p q, s.ix p = s.ix q → s.ix p ≠ 0 → p = q
  on_iff : ∀ p, s.on p = true ↔ p ∈ s.stack
  seen : ∀ p, p ∈ s.stack → s.ix p ≠ 0
  sorted : s.stack.Pairwise fun a b => s.ix a < s.ix b
  gray : ∀ c, c ∈ s.calls → c.1 ∈ s.stack
  gsort : s.calls.Pairwise fun a b => s.ix b.1 < s.ix a.1
  path : s.calls.Pairwise fun a b => Rch to b.1 a.1
  edge : ∀ c, c ∈ s.calls → c.2 ≤ (to c.1).length ∧ ∀ q, q ∈ (to c.1).take c.2 → s.ix q ≠ 0
  done : ∀ p, s.ix p ≠ 0 → (∀ c, c ∈ s.calls → c.1 ≠ p) → ∀ q, q ∈ to p → s.ix q ≠ 0
  gone : ∀ p, s.ix p ≠ 0 → p ∉ s.stack → (∀ q, q ∈ to p → s.ix q ≠ 0 ∧ q ∉ s.stack) ∧ IsPart to p (s.parts p)
  down : ∀ q, q ∈ s.stack → ∀ c, c ∈ s.calls → s.ix c.1 ≤ s.ix q → Rch to c.1 q
  back : ∀ q, q ∈ s.stack → ∃ c, c ∈ s.calls ∧ s.ix c.1 ≤ s.ix q ∧ Rch to q c.1
  low_le : ∀ c, c ∈ s.calls → s.low c.1 ≤ s.ix c.1
  low_is : ∀ c, c ∈ s.calls → ∃ r, r ∈ s.stack ∧ s.ix r = s.low c.1 ∧ Rch to c.1 r
  low_all : ∀ c, c ∈ s.calls → ∀ q, q ∈ s.stack → s.ix c.1 ≤ s.ix q → (∀ d, d ∈ s.calls → s.ix d.1 ≤ s.ix q → s.ix d.1 ≤ s.ix c.1) → ∀ r, r ∈ (if q = c.1 then (to q).take c.2 else to q) → r ∈ s.stack → s.low c.1 ≤ s.ix r
/-- the top call, and what is below it. -/
theorem Inv.top_lt {s : TS} (h : Inv to n s) {c i : Nat} {rest : List (Nat × Nat)} (hc : s.calls = (c, i) :: rest) : ∀ d, d ∈ rest → s.ix d.1 < s.ix c := by
  have := h.gsort
  rw [hc, List.pairwise_cons] at this
  exact this.1
theorem Inv.top_max {s : TS} (h : Inv to n s) {c i : Nat} {rest : List (Nat × Nat)} (hc : s.calls = (c, i) :: rest) : ∀ d, d ∈ s.calls → s.ix d.1 ≤ s.ix c := by
  intro d hd
  rw [hc] at hd
  rcases List.mem_cons.1 hd with rfl | hd
  · exact Nat.le_refl _
  · exact Nat.le_of_lt (h.top_lt hc d hd)
/-! ### the steps -/
def nextEdge (s : TS) (c i : Nat) (rest : List (Nat × Nat)) : TS := { s with calls := (c, i + 1) :: rest }
/-- an edge that leads to what is gone. -/
theorem inv_skip {s : TS} (h : Inv to n s) {c i q : Nat} {rest : List (Nat × Nat)} (hc : s.calls = (c, i) :: rest) (hq : (to c)[i]? = some q) (h0 : s.ix q ≠ 0) (low' : Nat → Nat) (hl : ∀ x, x ≠ c → low' x = s.low x) (hle : low' c ≤ s.low c) (hr : ∃ r, r ∈ s.stack ∧ s.ix r = low' c ∧ Rch to c r) (hon : q ∈ s.stack → low' c ≤ s.ix q) :
    Inv to n { nextEdge s c i rest with low := low' } := by
  have hil := (List.getElem?_eq_some_iff.1 hq).1
  have htk : (to c).take (i + 1) = (to c).take i ++ [q] := by
    rw [List.take_succ_eq_append_getElem hil, (List.getElem?_eq_some_iff.1 hq).2]
  have hmem : ∀ d, d ∈ ((c, i + 1) :: rest) → d = (c, i + 1) ∨ d ∈ rest := fun d hd => List.mem_cons.1 hd
  have hold : ∀ d, d ∈ rest → d ∈ s.calls := fun d hd => by rw [hc]; exact List.mem_cons_of_mem _ hd
  have htop : (c, i) ∈ s.calls := by rw [hc]; exact List.mem_cons_self
  have hne : ∀ d, d ∈ rest → d.1 ≠ c := fun d hd e => by have := h.top_lt hc d hd; rw [e] at this; omega
  have hmap : ∀ d, d ∈ ((c, i + 1) :: rest) → ∃ d', d' ∈ s.calls ∧ d'.1 = d.1 := fun d hd => by
    rcases hmem d hd with rfl | hd
    · exact ⟨_, htop, rfl⟩
    · exact ⟨_, hold d hd, rfl⟩
  have hmap' : ∀ d, d ∈ s.calls → ∃ d', d' ∈ ((c, i + 1) :: rest) ∧ d'.1 = d.1 := fun d hd => by
    rw [hc] at hd
    rcases List.mem_cons.1 hd with rfl | hd
    · exact ⟨_, List.mem_cons_self, rfl⟩
    · exact ⟨_, List.mem_cons_of_mem _ hd, rfl⟩
  have hgs := h.gsort
  have hpa := h.path
  rw [hc, List.pairwise_cons] at hgs hpa
  constructor
  · exact h.bnd
  · exact h.ix_le
  · exact h.ix_inj
  · exact h.on_iff
  · exact h.seen
  · exact h.sorted
  · intro d hd
    obtain ⟨d', h1, h2⟩ := hmap d hd
    rw [← h2]; exact h.gray d' h1
  · exact List.pairwise_cons.2 hgs
  · exact List.pairwise_cons.2 hpa
  · intro d hd
    rcases hmem d hd with rfl | hd
    · refine ⟨Nat.succ_le_of_lt hil, fun x hx => ?_⟩
      have hx : x ∈ (to c).take (i + 1) := hx
      rw [htk] at hx
      rcases List.mem_append.1 hx with hx | hx
      · exact (h.edge _ htop).2 x hx
      · rw [List.mem_singleton.1 hx]; exact h0
    · exact h.edge d (hold d hd)
  · intro p hp hno
    refine h.done p hp fun d hd => ?_
    obtain ⟨d', h1, h2⟩ := hmap' d hd
    rw [← h2]; exact hno d' h1
  · exact h.gone
  · intro x hx d hd hle'
    obtain ⟨d', h1, h2⟩ := hmap d hd
    have hle' : s.ix d.1 ≤ s.ix x := hle'
    rw [← h2] at hle' ⊢
    exact h.down x hx d' h1 hle'
  · intro x hx
    obtain ⟨d, h1, h2, h3⟩ := h.back x hx
    obtain ⟨d', h4, h5⟩ := hmap' d h1
    exact ⟨d', h4, by show s.ix d'.1 ≤ _; rw [h5]; exact h2, by rw [h5]; exact h3⟩
  · intro d hd
    show low' d.1 ≤ s.ix d.1
    rcases hmem d hd with rfl | hd
    · exact Nat.le_trans hle (h.low_le _ htop)
    · rw [hl _ (hne d hd)]; exact h.low_le d (hold d hd)
  · intro d hd
    show ∃ r, r ∈ s.stack ∧ s.ix r = low' d.1 ∧ Rch to d.1 r
    rcases hmem d hd with rfl | hd
    · exact hr
    · rw [hl _ (hne d hd)]; exact h.low_is d (hold d hd)
  · intro d hd x hx hle' hseg r hrr hrs
    show low' d.1 ≤ s.ix r
    have hseg' : ∀ e, e ∈ s.calls → s.ix e.1 ≤ s.ix x → s.ix e.1 ≤ s.ix d.1 := fun e he hle2 => by
      obtain ⟨e', h4, h5⟩ := hmap' e he
      have := hseg e' h4
      rw [← h5]; exact this (by show s.ix e'.1 ≤ _; rw [h5]; exact hle2)
    rcases hmem d hd with rfl | hd
    · have hold2 : ∀ r, r ∈ (if x = c then (to x).take i else to x) → r ∈ s.stack → low' c ≤ s.ix r := fun r h1 h2 => Nat.le_trans hle (h.low_all (c, i) htop x hx hle' hseg' r h1 h2)
      by_cases hxc : x = c
      · have hrr : r ∈ (if x = c then (to x).take (i + 1) else to x) := hrr
        rw [if_pos hxc, hxc, htk] at hrr
        rcases List.mem_append.1 hrr with h1 | h1
        · exact hold2 r (by rw [if_pos hxc, hxc]; exact h1) hrs
        · rw [List.mem_singleton.1 h1] at hrs ⊢; exact hon hrs
      · have hrr : r ∈ (if x = c then (to x).take (i + 1) else to x) := hrr
        rw [if_neg hxc] at hrr
        exact hold2 r (by rw [if_neg hxc]; exact hrr) hrs
    · rw [hl _ (hne d hd)]
      exact h.low_all d (hold d hd) x hx hle' hseg' r hrr hrs
/-- a node is entered. -/
def enterT (s : TS) (q : Nat) : TS := { s with ix := upd s.ix q (s.next + 1), low := upd s.low q (s.next + 1), on := upd s.on q true, stack := s.stack ++ [q], next := s.next + 1, calls := (q, 0) :: s.calls }
theorem inv_enter {s : TS} (h : Inv to n s) {q : Nat} (hqn : q < n) (h0 : s.ix q = 0) (hp : ∀ c i rest, s.calls = (c, i) :: rest → Rch to c q) : Inv to n (enterT s q) := by
  have hqs : q ∉ s.stack := fun hm => h.seen q hm h0
  have hne : ∀ p, s.ix p ≠ 0 → p ≠ q := fun p hp e => hp (by rw [e]; exact h0)
  have hst : ∀ p, p ∈ s.stack → p ≠ q := fun p hp e => hqs (e ▸ hp)
  have hcl : ∀ d, d ∈ s.calls → d.1 ≠ q := fun d hd => hst _ (h.gray d hd)
  have hix : ∀ p, p ≠ q → (enterT s q).ix p = s.ix p := fun p hp => upd_ne hp
  have hixq : (enterT s q).ix q = s.next + 1 := upd_self
  have hlo : ∀ p, p ≠ q → (enterT s q).low p = s.low p := fun p hp => upd_ne hp
  have hloq : (enterT s q).low q = s.next + 1 := upd_self
  have hss : ∀ p, p ∈ (enterT s q).stack ↔ p ∈ s.stack ∨ p = q := fun p => by show p ∈ s.stack ++ [q] ↔ _; simp
  have hcc : ∀ d, d ∈ (enterT s q).calls ↔ d = (q, 0) ∨ d ∈ s.calls := fun d => List.mem_cons
  have hge : ∀ p, s.ix p ≠ 0 → (enterT s q).ix p ≠ 0 := fun p hp => by rw [hix p (hne p hp)]; exact hp
  have hreach : ∀ d, d ∈ s.calls → Rch to d.1 q := by
    intro d hd
    cases hcs : s.calls with
    | nil => rw [hcs] at hd; simp at hd
    | cons t rest =>
      obtain ⟨c, i⟩ := t
      have hcq := hp c i rest hcs
      have hpa := h.path
      rw [hcs, List.pairwise_cons] at hpa
      rw [hcs] at hd
      rcases List.mem_cons.1 hd with rfl | hd
      · exact hcq
      · exact (hpa.1 d hd).trans hcq
  constructor
  · intro p hp
    by_cases e : p = q
    · rw [e]; exact hqn
    · rw [hix p e] at hp; exact h.bnd p hp
  · intro p
    show _ ≤ s.next + 1
    by_cases e : p = q
    · rw [e, hixq]; exact Nat.le_refl _
    · rw [hix p e]; have := h.ix_le p; omega
  · intro a b hab ha
    by_cases ea : a = q
    · by_cases eb : b = q
      · rw [ea, eb]
      · rw [ea, hixq, hix b eb] at hab
        have := h.ix_le b; omega
    · by_cases eb : b = q
      · rw [eb, hixq, hix a ea] at hab
        have := h.ix_le a; omega
      · rw [hix a ea, hix b eb] at hab
        rw [hix a ea] at ha
        exact h.ix_inj a b hab ha
  · intro p
    rw [hss]
    show upd s.on q true p = true ↔ _
    by_cases e : p = q
    · rw [e, upd_self]; simp
    · rw [upd_ne e, h.on_iff]; simp [e]
  · intro p hp
    rcases (hss p).1 hp with hp | rfl
    · exact hge p (h.seen p hp)
    · rw [hixq]; omega
  · show (s.stack ++ [q]).Pairwise _
    rw [List.pairwise_append]
    refine ⟨?_, List.pairwise_singleton _ _, fun a ha b hb => ?_⟩
    · refine h.sorted.imp_of_mem fun {a b} ha hb hab => ?_
      rw [hix a (hst a ha), hix b (hst b hb)]; exact hab
    · rw [List.mem_singleton.1 hb, hixq, hix a (hst a ha)]
      have := h.ix_le a; omega
  · intro d hd
    rcases (hcc d).1 hd with rfl | hd
    · exact (hss q).2 (.inr rfl)
    · exact (hss _).2 (.inl (h.gray d hd))
  · show ((q, 0) :: s.calls).Pairwise _
    refine List.pairwise_cons.2 ⟨fun d hd => ?_, h.gsort.imp_of_mem fun {a b} ha hb hab => ?_⟩
    · show (enterT s q).ix d.1 < (enterT s q).ix q
      rw [hixq, hix _ (hcl d hd)]
      have := h.ix_le d.1; omega
    · rw [hix _ (hcl a ha), hix _ (hcl b hb)]; exact hab
  · show ((q, 0) :: s.calls).Pairwise _
    exact List.pairwise_cons.2 ⟨fun d hd => hreach d hd, h.path⟩
  · intro d hd
    rcases (hcc d).1 hd with rfl | hd
    · refine ⟨Nat.zero_le _, fun x hx => ?_⟩
      simp at hx
    · obtain ⟨h1, h2⟩ := h.edge d hd
      exact ⟨h1, fun x hx => hge x (h2 x hx)⟩
  · intro p hp hno x hx
    have e : p ≠ q := fun e => hno (q, 0) ((hcc _).2 (.inl rfl)) e.symm
    rw [hix p e] at hp
    exact hge x (h.done p hp (fun d hd => hno d ((hcc d).2 (.inr hd))) x hx)
  · intro p hp hns
    have e : p ≠ q := fun e => hns ((hss p).2 (.inr e))
    rw [hix p e] at hp
    obtain ⟨h1, h2⟩ := h.gone p hp (fun hm => hns ((hss p).2 (.inl hm)))
    refine ⟨fun x hx => ?_, h2⟩
    obtain ⟨h3, h4⟩ := h1 x hx
    refine ⟨hge x h3, fun hm => ?_⟩
    rcases (hss x).1 hm with hm | hm
    · exact h4 hm
    · exact hne x h3 hm
  · intro x hx d hd hle
    rcases (hss x).1 hx with hx | rfl
    · rcases (hcc d).1 hd with rfl | hd
      · have hle : (enterT s q).ix q ≤ (enterT s q).ix x := hle
        rw [hixq, hix x (hst x hx)] at hle
        have := h.ix_le x; omega
      · rw [hix _ (hcl d hd), hix x (hst x hx)] at hle
        exact h.down x hx d hd hle
    · rcases (hcc d).1 hd with rfl | hd
      · exact .refl _
      · exact hreach d hd
  · intro x hx
    rcases (hss x).1 hx with hx | rfl
    · obtain ⟨d, h1, h2, h3⟩ := h.back x hx
      exact ⟨d, (hcc d).2 (.inr h1), by rw [hix _ (hcl d h1), hix x (hst x hx)]; exact h2, h3⟩
    · exact ⟨(x, 0), (hcc _).2 (.inl rfl), Nat.le_refl _, .refl _⟩
  · intro d hd
    rcases (hcc d).1 hd with rfl | hd
    · show (enterT s q).low q ≤ (enterT s q).ix q
      rw [hixq, hloq]; exact Nat.le_refl _
    · rw [hlo _ (hcl d hd), hix _ (hcl d hd)]; exact h.low_le d hd
  · intro d hd
    rcases (hcc d).1 hd with rfl | hd
    · exact ⟨q, (hss q).2 (.inr rfl), by rw [hixq, hloq], .refl _⟩
    · obtain ⟨r, h1, h2, h3⟩ := h.low_is d hd
      exact ⟨r, (hss r).2 (.inl h1), by rw [hix r (hst r h1), hlo _ (hcl d hd)]; exact h2, h3⟩
  · intro d hd x hx hle hseg r hr hrs
    rcases (hcc d).1 hd with rfl | hd2
    · have hxq : x = q := by
        rcases (hss x).1 hx with hx | e
        · have hle : (enterT s q).ix q ≤ (enterT s q).ix x := hle
          rw [hixq, hix x (hst x hx)] at hle
          have := h.ix_le x; omega
        · exact e
      have hr : r ∈ (if x = q then (to x).take 0 else to x) := hr
      rw [if_pos hxq] at hr
      simp at hr
    · have hxs : x ∈ s.stack := by
        rcases (hss x).1 hx with hx | e
        · exact hx
        · have h5 := hseg (q, 0) ((hcc _).2 (.inl rfl)) (by rw [e]; exact Nat.le_refl _)
          have h5 : (enterT s q).ix q ≤ (enterT s q).ix d.1 := h5
          rw [hixq, hix _ (hcl d hd2)] at h5
          have := h.ix_le d.1; omega
      rw [hlo _ (hcl d hd2)]
      rcases (hss r).1 hrs with hrs | rfl
      · rw [hix r (hst r hrs)]
        rw [hix _ (hcl d hd2), hix x (hst x hxs)] at hle
        refine h.low_all d hd2 x hxs hle (fun e he hle2 => ?_) r hr hrs
        have := hseg e ((hcc e).2 (.inr he)) (by rw [hix _ (hcl e he), hix x (hst x hxs)]; exact hle2)
        rwa [hix _ (hcl e he), hix _ (hcl d hd2)] at this
      · rw [hixq]
        have h5 := h.low_le d hd2
        have h6 := h.ix_le d.1
        omega
theorem pair_fst {P : Nat → Nat → Prop} {l l' : List (Nat × Nat)} (h : l.Pairwise fun a b => P a.1 b.1) (e : l.map (·.1) = l'.map (·.1)) : l'.Pairwise fun a b => P a.1 b.1 := by
  have h1 : (l.map (·.1)).Pairwise P := List.pairwise_map.2 h
  rw [e] at h1
  exact List.pairwise_map.1 h1
/-- one edge further. -/
theorem inv_bump {s : TS} (h : Inv to n s) {c i q : Nat} {pre rest : List (Nat × Nat)} (hc : s.calls = pre ++ (c, i) :: rest) (hq : (to c)[i]? = some q) (h0 : s.ix q ≠ 0) (hon : q ∈ s.stack → s.low c ≤ s.ix q) : Inv to n { s with calls := pre ++ (c, i + 1) :: rest } := by
  have hil := (List.getElem?_eq_some_iff.1 hq).1
  have htk : (to c).take (i + 1) = (to c).take i ++ [q] := by
    rw [List.take_succ_eq_append_getElem hil, (List.getElem?_eq_some_iff.1 hq).2]
  have htop : (c, i) ∈ s.calls := by rw [hc]; simp
  have hmem : ∀ d, d ∈ (pre ++ (c, i + 1) :: rest) → d = (c, i + 1) ∨ d ∈ s.calls := fun d hd => by
    rw [hc]
    rcases List.mem_append.1 hd with hd | hd
    · exact .inr (List.mem_append_left _ hd)
    · rcases List.mem_cons.1 hd with hd | hd
      · exact .inl hd
      · exact .inr (List.mem_append_right _ (List.mem_cons_of_mem _ hd))
  have hmap : ∀ d, d ∈ (pre ++ (c, i + 1) :: rest) → ∃ d', d' ∈ s.calls ∧ d'.1 = d.1 := fun d hd => by
    rcases hmem d hd with rfl | hd
    · exact ⟨_, htop, rfl⟩
    · exact ⟨_, hd, rfl⟩
  have hmap' : ∀ d, d ∈ s.calls → ∃ d', d' ∈ (pre ++ (c, i + 1) :: rest) ∧ d'.1 = d.1 := fun d hd => by
    rw [hc] at hd
    rcases List.mem_append.1 hd with hd | hd
    · exact ⟨d, List.mem_append_left _ hd, rfl⟩
    · rcases List.mem_cons.1 hd with rfl | hd
      · exact ⟨(c, i + 1), by simp, rfl⟩
      · exact ⟨d, List.mem_append_right _ (List.mem_cons_of_mem _ hd), rfl⟩
  have hfst : s.calls.map (·.1) = (pre ++ (c, i + 1) :: rest).map (·.1) := by rw [hc]; simp
  constructor
  · exact h.bnd
  · exact h.ix_le
  · exact h.ix_inj
  · exact h.on_iff
  · exact h.seen
  · exact h.sorted
  · intro d hd
    obtain ⟨d', h1, h2⟩ := hmap d hd
    rw [← h2]; exact h.gray d' h1
  · exact pair_fst (P := fun a b => s.ix b < s.ix a) h.gsort hfst
  · exact pair_fst (P := fun a b => Rch to b a) h.path hfst
  · intro d hd
    rcases hmem d hd with rfl | hd
    · refine ⟨Nat.succ_le_of_lt hil, fun x hx => ?_⟩
      have hx : x ∈ (to c).take (i + 1) := hx
      rw [htk] at hx
      rcases List.mem_append.1 hx with hx | hx
      · exact (h.edge _ htop).2 x hx
      · rw [List.mem_singleton.1 hx]; exact h0
    · exact h.edge d hd
  · intro p hp hno
    refine h.done p hp fun d hd => ?_
    obtain ⟨d', h1, h2⟩ := hmap' d hd
    rw [← h2]; exact hno d' h1
  · exact h.gone
  · intro x hx d hd hle'
    obtain ⟨d', h1, h2⟩ := hmap d hd
    have hle' : s.ix d.1 ≤ s.ix x := hle'
    rw [← h2] at hle' ⊢
    exact h.down x hx d' h1 hle'
  · intro x hx
    obtain ⟨d, h1, h2, h3⟩ := h.back x hx
    obtain ⟨d', h4, h5⟩ := hmap' d h1
    exact ⟨d', h4, by show s.ix d'.1 ≤ _; rw [h5]; exact h2, by rw [h5]; exact h3⟩
  · intro d hd
    obtain ⟨d', h1, h2⟩ := hmap d hd
    show s.low d.1 ≤ s.ix d.1
    rw [← h2]; exact h.low_le d' h1
  · intro d hd
    obtain ⟨d', h1, h2⟩ := hmap d hd
    show ∃ r, r ∈ s.stack ∧ s.ix r = s.low d.1 ∧ Rch to d.1 r
    rw [← h2]; exact h.low_is d' h1
  · intro d hd x hx hle' hseg r hrr hrs
    show s.low d.1 ≤ s.ix r
    have hseg' : ∀ e, e ∈ s.calls → s.ix e.1 ≤ s.ix x → s.ix e.1 ≤ s.ix d.1 := fun e he hle2 => by
      obtain ⟨e', h4, h5⟩ := hmap' e he
      have := hseg e' h4
      rw [← h5]; exact this (by show s.ix e'.1 ≤ _; rw [h5]; exact hle2)
    rcases hmem d hd with rfl | hd
    · by_cases hxc : x = c
      · have hrr : r ∈ (if x = c then (to x).take (i + 1) else to x) := hrr
        rw [if_pos hxc, hxc, htk] at hrr
        rcases List.mem_append.1 hrr with h1 | h1
        · exact h.low_all (c, i) htop x hx hle' hseg' r (by rw [if_pos hxc, hxc]; exact h1) hrs
        · rw [List.mem_singleton.1 h1] at hrs ⊢; exact hon hrs
      · have hrr : r ∈ (if x = c then (to x).take (i + 1) else to x) := hrr
        rw [if_neg hxc] at hrr
        exact h.low_all (c, i) htop x hx hle' hseg' r (by rw [if_neg hxc]; exact hrr) hrs
    · exact h.low_all d hd x hx hle' hseg' r hrr hrs
/-- a new node is met, and entered. -/
theorem inv_new {s : TS} (h : Inv to n s) {c i q : Nat} {rest : List (Nat × Nat)} (hc : s.calls = (c, i) :: rest) (hq : (to c)[i]? = some q) (hqn : q < n) (h0 : s.ix q = 0) : Inv to n (enterT (nextEdge s c i rest) q) := by
  have hm : q ∈ to c := List.mem_of_getElem? hq
  have h1 := inv_enter h hqn h0 (fun c' i' rest' e => by rw [hc] at e; cases e; exact Rch.one hm)
  have hcs : c ∈ s.stack := by have := h.gray (c, i) (by rw [hc]; simp); exact this
  have hcq : c ≠ q := fun e => h.seen c hcs (by rw [e]; exact h0)
  have hix : (enterT s q).ix q = s.next + 1 := upd_self
  have hlo : (enterT s q).low c = s.low c := upd_ne hcq
  have h2 := inv_bump h1 (pre := [(q, 0)]) (c := c) (i := i) (rest := rest) (by show (q, 0) :: s.calls = _; rw [hc]; rfl) hq (by rw [hix]; omega) (fun _ => by
    rw [hix, hlo]
    have a := h.low_le (c, i) (by rw [hc]; simp)
    have b := h.ix_le c
    have a : s.low c ≤ s.ix c := a
    omega)
  exact h2
/-- who called gets the lower number. -/
def lowUp (low : Nat → Nat) (c : Nat) : List (Nat × Nat) → Nat → Nat
  | [] => low
  | (u, _) :: _ => upd low u (min (low u) (low c))
/-- a node is left that is not the first one of its part. -/
def popKeep (s : TS) (c : Nat) (rest : List (Nat × Nat)) : TS := { s with calls := rest, low := lowUp s.low c rest }
theorem inv_popKeep {s : TS} (h : Inv to n s) {c i : Nat} {rest : List (Nat × Nat)} (hc : s.calls = (c, i) :: rest) (hi : i = (to c).length) (hlow : s.low c ≠ s.ix c) : ∃ u j rest', rest = (u, j) :: rest' ∧ Inv to n (popKeep s c rest) := by
  have htop : (c, i) ∈ s.calls := by rw [hc]; simp
  have hlt : s.low c < s.ix c := by have : s.low c ≤ s.ix c := h.low_le _ htop; omega
  have hold : ∀ d, d ∈ rest → d ∈ s.calls := fun d hd => by rw [hc]; exact List.mem_cons_of_mem _ hd
  have htl := h.top_lt hc
  obtain ⟨r, hr1, hr2, hr3⟩ := h.low_is _ htop
  have hr2 : s.ix r = s.low c := hr2
  have hr3 : Rch to c r := hr3
  obtain ⟨g, hg1, hg2, hg3⟩ := h.back r hr1
  have hgr : g ∈ rest := by
    rw [hc] at hg1
    rcases List.mem_cons.1 hg1 with rfl | hg1
    · have hg2 : s.ix c ≤ s.ix r := hg2
      omega
    · exact hg1
  cases hrest : rest with
  | nil => rw [hrest] at hgr; simp at hgr
  | cons t rest' =>
    obtain ⟨u, j⟩ := t
    refine ⟨u, j, rest', rfl, ?_⟩
    rw [hrest] at hc htl hold hgr
    have hlo : (popKeep s c ((u, j) :: rest')).low = upd s.low u (min (s.low u) (s.low c)) := rfl
    have huc : (u, j) ∈ s.calls := hold _ List.mem_cons_self
    have hgs := h.gsort
    have hpa := h.path
    rw [hc, List.pairwise_cons] at hgs hpa
    have hgs2 := List.pairwise_cons.1 hgs.2
    have hpa2 := List.pairwise_cons.1 hpa.2
    have hRuc : Rch to u c := hpa.1 (u, j) List.mem_cons_self
    have huix : s.ix u < s.ix c := htl (u, j) List.mem_cons_self
    have hne : ∀ d, d ∈ rest' → d.1 ≠ u := fun d hd e => by
      have : s.ix d.1 < s.ix u := hgs2.1 d hd
      rw [e] at this; omega
    have humax : ∀ d, d ∈ ((u, j) :: rest') → s.ix d.1 ≤ s.ix u := fun d hd => by
      rcases List.mem_cons.1 hd with rfl | hd
      · exact Nat.le_refl _
      · have : s.ix d.1 < s.ix u := hgs2.1 d hd
        omega
    constructor
    · exact h.bnd
    · exact h.ix_le
    · exact h.ix_inj
    · exact h.on_iff
    · exact h.seen
    · exact h.sorted
    · intro d hd; exact h.gray d (hold d hd)
    · exact hgs.2
    · exact hpa.2
    · intro d hd; exact h.edge d (hold d hd)
    · intro p hp hno q hq
      by_cases e : p = c
      · have := (h.edge _ htop).2 q
        have h2 : q ∈ (to c).take i := by rw [hi, List.take_length, ← e]; exact hq
        exact this h2
      · refine h.done p hp (fun d hd => ?_) q hq
        rw [hc] at hd
        rcases List.mem_cons.1 hd with rfl | hd
        · exact fun e2 => e e2.symm
        · exact hno d hd
    · exact h.gone
    · intro x hx d hd hle; exact h.down x hx d (hold d hd) hle
    · intro x hx
      obtain ⟨d, h1, h2, h3⟩ := h.back x hx
      rw [hc] at h1
      rcases List.mem_cons.1 h1 with rfl | h1
      · refine ⟨g, hgr, ?_, (h3.trans hr3).trans hg3⟩
        show s.ix g.1 ≤ s.ix x
        have h2 : s.ix c ≤ s.ix x := h2
        omega
      · exact ⟨d, h1, h2, h3⟩
    · intro d hd
      rw [hlo]
      show upd s.low u _ d.1 ≤ s.ix d.1
      rcases List.mem_cons.1 hd with rfl | hd
      · show upd s.low u _ u ≤ s.ix u
        rw [upd_self]
        have : s.low u ≤ s.ix u := h.low_le _ huc
        omega
      · rw [upd_ne (hne d hd)]; exact h.low_le d (hold d (List.mem_cons_of_mem _ hd))
    · intro d hd
      rw [hlo]
      show ∃ r, r ∈ s.stack ∧ s.ix r = upd s.low u _ d.1 ∧ Rch to d.1 r
      rcases List.mem_cons.1 hd with rfl | hd
      · show ∃ r, r ∈ s.stack ∧ s.ix r = upd s.low u _ u ∧ Rch to u r
        rw [upd_self]
        by_cases hm : s.low u ≤ s.low c
        · rw [Nat.min_eq_left hm]; exact h.low_is _ huc
        · rw [Nat.min_eq_right (by omega)]
          exact ⟨r, hr1, hr2, hRuc.trans hr3⟩
      · rw [upd_ne (hne d hd)]; exact h.low_is d (hold d (List.mem_cons_of_mem _ hd))
    · intro d hd x hx hle hseg r' hrr hrs
      have hle : s.ix d.1 ≤ s.ix x := hle
      have hseg : ∀ e, e ∈ ((u, j) :: rest') → s.ix e.1 ≤ s.ix x → s.ix e.1 ≤ s.ix d.1 := hseg
      show (popKeep s c ((u, j) :: rest')).low d.1 ≤ s.ix r'
      rw [hlo]
      rcases List.mem_cons.1 hd with rfl | hd2
      · show upd s.low u _ u ≤ s.ix r'
        rw [upd_self]
        by_cases hcx : s.ix c ≤ s.ix x
        · have hxu : x ≠ u := fun e => by rw [e] at hcx; omega
          have := h.low_all _ htop x hx hcx (fun e he hle2 => by
            show s.ix e.1 ≤ s.ix c
            rw [hc] at he
            rcases List.mem_cons.1 he with rfl | he
            · exact Nat.le_refl _
            · have := htl e he; omega) r' (by
              have hrr : r' ∈ (if x = u then (to x).take j else to x) := hrr
              rw [if_neg hxu] at hrr
              split
              · rename_i e
                have e : x = c := e
                show r' ∈ (to x).take i
                rw [hi, e, List.take_length, ← e]; exact hrr
              · exact hrr) hrs
          have : s.low c ≤ s.ix r' := this
          omega
        · have := h.low_all _ huc x hx hle (fun e he hle2 => by
            rw [hc] at he
            rcases List.mem_cons.1 he with rfl | he
            · exact absurd hle2 hcx
            · exact hseg e he hle2) r' hrr hrs
          have : s.low u ≤ s.ix r' := this
          omega
      · rw [upd_ne (hne d hd2)]
        refine h.low_all d (hold d hd) x hx hle (fun e he hle2 => ?_) r' hrr hrs
        rw [hc] at he
        rcases List.mem_cons.1 he with rfl | he
        · -- the top is no longer there, but what is below it bounds it
          exfalso
          have h1 : s.ix u ≤ s.ix x := by have hle2 : s.ix c ≤ s.ix x := hle2; omega
          have h2 := hseg (u, j) List.mem_cons_self h1
          have h2 : s.ix u ≤ s.ix d.1 := h2
          have : s.ix d.1 < s.ix u := hgs2.1 d hd2
          omega
        · exact hseg e he hle2
/-- a part is told, and leaves the stack. -/
def popPart (s : TS) (c : Nat) (rest : List (Nat × Nat)) (A B : List Nat) (least : Nat) : TS := { s with calls := rest, stack := A, on := fun x => if x ∈ B then false else s.on x, parts := fun x => if x ∈ B then least else s.parts x, low := lowUp s.low c rest }
theorem inv_popPart {s : TS} (h : Inv to n s) {c i least : Nat} {rest : List (Nat × Nat)} {A C : List Nat} (hc : s.calls = (c, i) :: rest) (hi : i = (to c).length) (hlow : s.low c = s.ix c) (hst : s.stack = A ++ c :: C) (hl1 : least ∈ c :: C) (hl2 : ∀ q, q ∈ c :: C → least ≤ q) : Inv to n (popPart s c rest A (c :: C) least) := by
  have htop : (c, i) ∈ s.calls := by rw [hc]; simp
  have hold : ∀ d, d ∈ rest → d ∈ s.calls := fun d hd => by rw [hc]; exact List.mem_cons_of_mem _ hd
  have htl := h.top_lt hc
  have htm := h.top_max hc
  have hso := h.sorted
  rw [hst, List.pairwise_append] at hso
  obtain ⟨so1, so2, so3⟩ := hso
  rw [List.pairwise_cons] at so2
  have hA : ∀ x, x ∈ A → s.ix x < s.ix c := fun x hx => so3 x hx c (by simp)
  have hB : ∀ x, x ∈ c :: C → s.ix c ≤ s.ix x := fun x hx => by
    rcases List.mem_cons.1 hx with rfl | hx
    · exact Nat.le_refl _
    · exact Nat.le_of_lt (so2.1 x hx)
  have hmem : ∀ x, x ∈ s.stack ↔ x ∈ A ∨ x ∈ c :: C := fun x => by rw [hst, List.mem_append]
  have hAB : ∀ x, x ∈ A → x ∉ c :: C := fun x h1 h2 => by have := hA x h1; have := hB x h2; omega
  have hBi : ∀ x, x ∈ s.stack → s.ix c ≤ s.ix x → x ∈ c :: C := fun x hx hle => by
    rcases (hmem x).1 hx with h1 | h1
    · have := hA x h1; omega
    · exact h1
  -- what a node of the part leads to
  have hout : ∀ x, x ∈ c :: C → ∀ r, r ∈ to x → s.ix r ≠ 0 ∧ (r ∈ s.stack → r ∈ c :: C) := by
    intro x hx r hr
    have hxs : x ∈ s.stack := (hmem x).2 (.inr hx)
    have hrp : r ∈ (if x = (c, i).1 then (to x).take (c, i).2 else to x) := by
      show r ∈ (if x = c then (to x).take i else to x)
      split
      · rename_i e
        rw [hi, e, List.take_length, ← e]; exact hr
      · exact hr
    refine ⟨?_, fun hrs => ?_⟩
    · by_cases e : x = c
      · refine (h.edge _ htop).2 r ?_
        show r ∈ (to c).take i
        rw [hi, List.take_length, ← e]; exact hr
      · refine h.done x (h.seen x hxs) (fun d hd e2 => ?_) r hr
        have h1 := htm d hd
        rw [e2] at h1
        have h2 := hB x hx
        have h3 : s.ix x = s.ix c := by omega
        exact e (h.ix_inj _ _ h3 (h.seen x hxs))
    · have := h.low_all _ htop x hxs (hB x hx) (fun e he _ => htm e he) r hrp hrs
      have this : s.low c ≤ s.ix r := this
      rw [hlow] at this
      exact hBi r hrs this
  have hclosed : ∀ x, x ∈ c :: C → ∀ y, Rch to x y → y ∈ c :: C ∨ (s.ix y ≠ 0 ∧ y ∉ s.stack) := by
    intro x hx y hy
    refine hy.closed (fun z => z ∈ c :: C ∨ (s.ix z ≠ 0 ∧ z ∉ s.stack)) (fun p q hp hq => ?_) (.inl hx)
    rcases hp with hp | ⟨h1, h2⟩
    · obtain ⟨h1, h2⟩ := hout p hp q hq
      by_cases hqs : q ∈ s.stack
      · exact .inl (h2 hqs)
      · exact .inr ⟨h1, hqs⟩
    · exact .inr ((h.gone p h1 h2).1 q hq)
  have hgone : ∀ x y, s.ix x ≠ 0 ∧ x ∉ s.stack → Rch to x y → s.ix y ≠ 0 ∧ y ∉ s.stack := fun x y hx hy => hy.closed (fun z => s.ix z ≠ 0 ∧ z ∉ s.stack) (fun p q hp hq => (h.gone p hp.1 hp.2).1 q hq) hx
  have hdown : ∀ x, x ∈ c :: C → Rch to c x := fun x hx => h.down x ((hmem x).2 (.inr hx)) _ htop (hB x hx)
  have hback : ∀ x, x ∈ c :: C → Rch to x c := by
    intro x hx
    obtain ⟨g, h1, h2, h3⟩ := h.back x ((hmem x).2 (.inr hx))
    have hgs := h.gray g h1
    rcases hclosed x hx _ h3 with h4 | h4
    · have h5 := hB _ h4
      have h6 := htm g h1
      have : g.1 = c := h.ix_inj _ _ (by omega) (h.seen _ hgs)
      rw [← this]; exact h3
    · exact absurd hgs h4.2
  have hpart : ∀ x, x ∈ c :: C → IsPart to x least := by
    intro x hx
    refine ⟨⟨(hback x hx).trans (hdown _ hl1), (hback _ hl1).trans (hdown x hx)⟩, fun q h1 h2 => ?_⟩
    rcases hclosed x hx q h1 with h3 | h3
    · exact hl2 q h3
    · exact absurd ((hmem x).2 (.inr hx)) (hgone q x h3 h2).2
  have hlo : (popPart s c rest A (c :: C) least).low = s.low := by
    show lowUp s.low c rest = s.low
    cases hr : rest with
    | nil => rfl
    | cons t r =>
      obtain ⟨u, j⟩ := t
      have h1 : s.ix u < s.ix c := htl (u, j) (by rw [hr]; simp)
      have h2 : s.low u ≤ s.ix u := h.low_le (u, j) (hold _ (by rw [hr]; simp))
      funext x
      by_cases e : x = u
      · rw [e]; show upd s.low u _ u = _; rw [upd_self]; omega
      · exact upd_ne e
  have hAs : ∀ x, x ∈ A → x ∈ s.stack := fun x hx => (hmem x).2 (.inl hx)
  have hAi : ∀ x, x ∈ s.stack → s.ix x < s.ix c → x ∈ A := fun x hx hlt => by
    rcases (hmem x).1 hx with h1 | h1
    · exact h1
    · have := hB x h1; omega
  have hgs := h.gsort
  have hpa := h.path
  rw [hc, List.pairwise_cons] at hgs hpa
  constructor
  · exact h.bnd
  · exact h.ix_le
  · exact h.ix_inj
  · intro p
    show (if p ∈ c :: C then false else s.on p) = true ↔ p ∈ A
    split
    · rename_i hp
      simp only [Bool.false_eq_true, false_iff]
      exact fun hA' => hAB p hA' hp
    · rename_i hp
      rw [h.on_iff, hmem]
      exact ⟨fun h => h.resolve_right hp, .inl⟩
  · intro p hp; exact h.seen p (hAs p hp)
  · exact so1
  · intro d hd; exact hAi _ (h.gray d (hold d hd)) (htl d hd)
  · exact hgs.2
  · exact hpa.2
  · intro d hd; exact h.edge d (hold d hd)
  · intro p hp hno q hq
    by_cases e : p = c
    · refine (h.edge _ htop).2 q ?_
      show q ∈ (to c).take i
      rw [hi, List.take_length, ← e]; exact hq
    · refine h.done p hp (fun d hd => ?_) q hq
      rw [hc] at hd
      rcases List.mem_cons.1 hd with rfl | hd
      · exact fun e2 => e e2.symm
      · exact hno d hd
  · intro p hp hns
    have hns : p ∉ A := hns
    show (∀ q, q ∈ to p → s.ix q ≠ 0 ∧ q ∉ A) ∧ IsPart to p (if p ∈ c :: C then least else s.parts p)
    by_cases hpB : p ∈ c :: C
    · rw [if_pos hpB]
      refine ⟨fun q hq => ?_, hpart p hpB⟩
      obtain ⟨h1, h2⟩ := hout p hpB q hq
      exact ⟨h1, fun hqA => hAB q hqA (h2 (hAs q hqA))⟩
    · rw [if_neg hpB]
      obtain ⟨h1, h2⟩ := h.gone p hp (fun hm => ((hmem p).1 hm).elim hns hpB)
      exact ⟨fun q hq => ⟨(h1 q hq).1, fun hqA => (h1 q hq).2 (hAs q hqA)⟩, h2⟩
  · intro x hx d hd hle; exact h.down x (hAs x hx) d (hold d hd) hle
  · intro x hx
    obtain ⟨d, h1, h2, h3⟩ := h.back x (hAs x hx)
    rw [hc] at h1
    rcases List.mem_cons.1 h1 with rfl | h1
    · have h2 : s.ix c ≤ s.ix x := h2
      have := hA x hx; omega
    · exact ⟨d, h1, h2, h3⟩
  · intro d hd; rw [hlo]; exact h.low_le d (hold d hd)
  · intro d hd
    rw [hlo]
    obtain ⟨r, h1, h2, h3⟩ := h.low_is d (hold d hd)
    refine ⟨r, hAi r h1 ?_, h2, h3⟩
    have := h.low_le d (hold d hd)
    have := htl d hd
    omega
  · intro d hd x hx hle hseg r hr hrs
    rw [hlo]
    refine h.low_all d (hold d hd) x (hAs x hx) hle (fun e he hle2 => ?_) r hr (hAs r hrs)
    rw [hc] at he
    rcases List.mem_cons.1 he with rfl | he
    · have hle2 : s.ix c ≤ s.ix x := hle2
      have := hA x hx; omega
    · exact hseg e he hle2
/-- where the top call's node stands. -/
theorem top_split {s : TS} (h : Inv to n s) {c i : Nat} {rest : List (Nat × Nat)} (hc : s.calls = (c, i) :: rest) : ∃ A C, s.stack = A ++ c :: C ∧ c ∉ A := by
  have hm : c ∈ s.stack := h.gray (c, i) (by rw [hc]; simp)
  obtain ⟨A, C, e⟩ := List.append_of_mem hm
  refine ⟨A, C, e, fun hA => ?_⟩
  have hso := h.sorted
  rw [e, List.pairwise_append] at hso
  have := hso.2.2 c hA c (by simp)
  omega
/-- all is told. -/
theorem inv_end {s : TS} (h : Inv to n s) (hc : s.calls = []) : s.stack = [] ∧ ∀ p, s.ix p ≠ 0 → IsPart to p (s.parts p) := by
  have hs : s.stack = [] := by
    cases hst : s.stack with
    | nil => rfl
    | cons a r =>
      obtain ⟨d, h1, _⟩ := h.back a (by rw [hst]; simp)
      rw [hc] at h1; simp at h1
  exact ⟨hs, fun p hp => (h.gone p hp (by rw [hs]; simp)).2⟩
theorem inv_start (to : Nat → List Nat) (n : Nat) : Inv to n ⟨fun _ => 0, fun _ => 0, fun _ => false, fun _ => 0, [], 0, []⟩ := by
  constructor <;> simp
/-! ### how long it takes -/
def mu (to : Nat → List Nat) (n : Nat) (s : TS) : Nat := (s.calls.map fun c => (to c.1).length - c.2 + 1).sum + ((List.range n).map fun p => if s.ix p = 0 then (to p).length + 1 else 0).sum
theorem sum_upd {f g : Nat → Nat} {q : Nat} : ∀ (l : List Nat), l.Nodup → q ∈ l → (∀ x, x ∈ l → x ≠ q → f x = g x) → (l.map f).sum + g q = (l.map g).sum + f q
  | [], _, hq, _ => by simp at hq
  | a :: l, hn, hq, h => by
    rw [List.nodup_cons] at hn
    simp only [List.map_cons, List.sum_cons]
    by_cases e : q = a
    · subst e
      have : l.map f = l.map g := List.map_congr_left fun x hx => h x (by simp [hx]) (fun e => hn.1 (e ▸ hx))
      rw [this]; omega
    · have := sum_upd l hn.2 ((List.mem_cons.1 hq).resolve_left e) fun x hx => h x (by simp [hx])
      have h2 := h a (by simp) (Ne.symm e)
      omega
theorem mu_pop {s : TS} {c i : Nat} {rest : List (Nat × Nat)} (hc : s.calls = (c, i) :: rest) (s' : TS) (h1 : s'.calls = rest) (h2 : s'.ix = s.ix) : mu to n s' < mu to n s := by
  unfold mu
  rw [h1, h2, hc]
  simp only [List.map_cons, List.sum_cons]
  omega
theorem mu_skip {s : TS} {c i q : Nat} {rest : List (Nat × Nat)} (hc : s.calls = (c, i) :: rest) (hq : (to c)[i]? = some q) (s' : TS) (h1 : s'.calls = (c, i + 1) :: rest) (h2 : s'.ix = s.ix) : mu to n s' < mu to n s := by
  have hil := (List.getElem?_eq_some_iff.1 hq).1
  unfold mu
  rw [h1, h2, hc]
  simp only [List.map_cons, List.sum_cons]
  omega
theorem mu_new {s : TS} {c i q : Nat} {rest : List (Nat × Nat)} (hc : s.calls = (c, i) :: rest) (hq : (to c)[i]? = some q) (hqn : q < n) (h0 : s.ix q = 0) : mu to n (enterT (nextEdge s c i rest) q) < mu to n s := by
  have hil := (List.getElem?_eq_some_iff.1 hq).1
  have hix : (enterT (nextEdge s c i rest) q).ix = upd s.ix q (s.next + 1) := rfl
  have hcl : (enterT (nextEdge s c i rest) q).calls = (q, 0) :: (c, i + 1) :: rest := rfl
  have hs := sum_upd (f := fun p => if s.ix p = 0 then (to p).length + 1 else 0) (g := fun p => if upd s.ix q (s.next + 1) p = 0 then (to p).length + 1 else 0) (q := q) (List.range n) List.nodup_range (by simpa using hqn) (fun x _ hx => by simp only [upd_ne hx])
  simp only [upd_self, h0, if_true] at hs
  rw [if_neg (by omega)] at hs
  unfold mu
  rw [hix, hcl, hc]
  simp only [List.map_cons, List.sum_cons]
  omega
end Go.AM.G
