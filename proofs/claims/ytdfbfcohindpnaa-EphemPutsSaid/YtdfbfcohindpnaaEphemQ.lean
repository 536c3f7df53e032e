/- Part of the proof: contracts of functions of the given program on an abstract machine. -/
import Derived.Test.YtdfbfcohindpnaaEphemP
set_option linter.unusedVariables false
set_option linter.unusedSimpArgs false
set_option maxRecDepth 100000
namespace Go.AM.G
open Go Go.AM
theorem Has.len {l : List Slot} {k v : Int} (h : Has l k v) : 0 < l.length := by
  obtain ⟨j, s, hj, _⟩ := h
  have := (List.getElem?_eq_some_iff.1 hj).1
  omega
theorem okT.has_uniq {l : List Slot} (h : okT l) {k v v' : Int} (a : Has l k v) (b : Has l k v') : v = v' := by
  obtain ⟨j, s, hj, h1, h2, rfl⟩ := a
  obtain ⟨j', s', hj', h1', h2', rfl⟩ := b
  have := h.uniq hj h1 hj' h1' (h2.trans h2'.symm)
  subst this
  rw [hj] at hj'
  cases hj'
  rfl
theorem okT_zero {n : Nat} (h : Pow n) : okT (List.replicate n zeroS) := by
  have := h.le
  refine ⟨by simpa using h, by simp [cnt, zeroS, List.countP_replicate]; omega, fun i s hi => ?_⟩
  simp only [List.getElem?_replicate, Option.ite_none_right_eq_some, Option.some.injEq] at hi
  rw [← hi.2]
  simp [okS, zeroS]
theorem cnt0_lay {l : List Slot} {k v : Int} : cnt 0 l ≤ cnt 0 (layL l k v) + 1 := cnt_set
/-- a table laid anew, with part of the keys. -/
theorem anew_fold : ∀ (r : List Slot) (t : List Slot), okT t → cnt 1 r < cnt 0 t → (∀ s ∈ r, s.st = 1 → s.key ≠ 0) → (r.Pairwise fun a b => a.st = 1 → b.st = 1 → a.key ≠ b.key) → (∀ s ∈ r, s.st = 1 → ∀ v, ¬ Has t s.key v) →
    okT (r.foldl (fun t s => if s.st = 1 then layL t s.key s.val else t) t) ∧ (∀ k v, Has (r.foldl (fun t s => if s.st = 1 then layL t s.key s.val else t) t) k v ↔ Has t k v ∨ ∃ s ∈ r, s.st = 1 ∧ s.key = k ∧ s.val = v)
  | [], t, h, _, _, _, _ => ⟨h, fun k v => by simp⟩
  | a :: r, t, h, hc, hk, hp, hn => by
    simp only [List.foldl_cons]
    rw [List.pairwise_cons] at hp
    by_cases h1 : a.st = 1
    · rw [if_pos h1]
      have hca : cnt 1 (a :: r) = cnt 1 r + 1 := by simp [cnt, List.countP_cons, h1]
      rw [hca] at hc
      have h0 := cnt0_lay (l := t) (k := a.key) (v := a.val)
      have hok := h.lay (k := a.key) (v := a.val) (hk a (by simp) h1) (by omega)
      have hhas := fun k v => h.lay_has (k := a.key) (v := a.val) (k' := k) (v' := v)
      obtain ⟨a1, a2⟩ := anew_fold r _ hok (by omega) (fun s hs => hk s (by simp [hs])) hp.2 (fun s hs h1' v hv => by
        rw [hhas] at hv
        rw [if_neg (fun e => hp.1 s hs h1 h1' e.symm)] at hv
        exact hn s (by simp [hs]) h1' v hv)
      refine ⟨a1, fun k v => ?_⟩
      rw [a2, hhas]
      by_cases hka : k = a.key
      · rw [if_pos hka]
        constructor
        · rintro (rfl | ⟨s, hs, b1, b2, b3⟩)
          · exact .inr ⟨a, by simp, h1, hka.symm, rfl⟩
          · exact .inr ⟨s, by simp [hs], b1, b2, b3⟩
        · rintro (hv | ⟨s, hs, b1, b2, b3⟩)
          · exact absurd hv (by rw [hka]; exact hn a (by simp) h1 v)
          · rcases List.mem_cons.1 hs with rfl | hs
            · exact .inl b3.symm
            · exact .inr ⟨s, hs, b1, b2, b3⟩
      · rw [if_neg hka]
        constructor
        · rintro (hv | ⟨s, hs, b1, b2, b3⟩)
          · exact .inl hv
          · exact .inr ⟨s, by simp [hs], b1, b2, b3⟩
        · rintro (hv | ⟨s, hs, b1, b2, b3⟩)
          · exact .inl hv
          · rcases List.mem_cons.1 hs with rfl | hs
            · exact absurd b2.symm hka
            · exact .inr ⟨s, hs, b1, b2, b3⟩
    · rw [if_neg h1]
      have hca : cnt 1 (a :: r) = cnt 1 r := by simp [cnt, List.countP_cons, h1]
      rw [hca] at hc
      obtain ⟨a1, a2⟩ := anew_fold r t h hc (fun s hs => hk s (by simp [hs])) hp.2 (fun s hs => hn s (by simp [hs]))
      refine ⟨a1, fun k v => ?_⟩
      rw [a2]
      constructor
      · rintro (hv | ⟨s, hs, b1, b2, b3⟩)
        · exact .inl hv
        · exact .inr ⟨s, by simp [hs], b1, b2, b3⟩
      · rintro (hv | ⟨s, hs, b1, b2, b3⟩)
        · exact .inl hv
        · rcases List.mem_cons.1 hs with rfl | hs
          · exact absurd b1 h1
          · exact .inr ⟨s, hs, b1, b2, b3⟩
theorem has_iff {l : List Slot} {k v : Int} : Has l k v ↔ ∃ s ∈ l, s.st = 1 ∧ s.key = k ∧ s.val = v := by
  constructor
  · rintro ⟨j, s, hj, h⟩
    exact ⟨s, List.mem_of_getElem? hj, h⟩
  · rintro ⟨s, hs, h⟩
    obtain ⟨j, hj⟩ := List.getElem?_of_mem hs
    exact ⟨j, s, hj, h⟩
theorem okT.pair {l : List Slot} (h : okT l) : l.Pairwise fun a b => a.st = 1 → b.st = 1 → a.key ≠ b.key := by
  rw [List.pairwise_iff_getElem]
  intro i j hi hj hij h1 h2 hk
  have := h.uniq (List.getElem?_eq_getElem hi) h1 (List.getElem?_eq_getElem hj) h2 hk
  omega
/-- the slots of a right table that are used: their keys are apart, and not 0. -/
theorem valid_pair {l : List Slot} (h : validB l = true) : (∀ s ∈ l, s.st = 1 → s.key ≠ 0) ∧ l.Pairwise fun a b => a.st = 1 → b.st = 1 → a.key ≠ b.key := by
  rcases valid_iff.1 h with h | ⟨h, _⟩
  · have : l = [] := List.length_eq_zero_iff.1 h
    subst this
    exact ⟨by simp, List.Pairwise.nil⟩
  · refine ⟨fun s hs h1 => ?_, h.pair⟩
    obtain ⟨j, hj⟩ := List.getElem?_of_mem hs
    exact (h.find hj h1).2
theorem valid_anew {l : List Slot} (h : validB l = true) (hs : sizeL (cnt 1 l) ≤ 64) : okT (anewL l) ∧ ∀ k v, Has (anewL l) k v ↔ Has l k v := by
  have hc := sizeL_cases (cnt 1 l)
  have hp : Pow (sizeL (cnt 1 l) : Nat) := by unfold Pow; omega
  obtain ⟨h1, h2⟩ := valid_pair h
  have h0 : ∀ k v, ¬ Has (List.replicate (sizeL (cnt 1 l)) zeroS) k v := by
    rintro k v ⟨j, s, hj, a, _⟩
    simp only [List.getElem?_replicate, Option.ite_none_right_eq_some, Option.some.injEq] at hj
    rw [← hj.2] at a
    simp [zeroS] at a
  have he : cnt 0 (List.replicate (sizeL (cnt 1 l)) zeroS) = sizeL (cnt 1 l) := by simp [cnt, zeroS, List.countP_replicate]
  obtain ⟨a, b⟩ := anew_fold l _ (okT_zero hp) (by rw [he]; omega) h1 h2 (fun s _ _ => h0 s.key)
  refine ⟨a, fun k v => ?_⟩
  rw [has_iff (l := l)]
  refine (b k v).trans ⟨fun hh => hh.resolve_left (h0 k v), .inr⟩
theorem cnt_set_up {l : List Slot} {i : Nat} {s : Slot} {st : Int} : cnt st (l.set i s) ≤ cnt st l + 1 := by
  induction l generalizing i with
  | nil => simp [cnt]
  | cons a l ih =>
    cases i with
    | zero => simp only [List.set_cons_zero, cnt, List.countP_cons]; split <;> split <;> omega
    | succ i =>
      have := ih (i := i)
      simp only [List.set_cons_succ, cnt, List.countP_cons] at this ⊢
      omega
theorem anew_cnt {l : List Slot} : (anewL l).length = sizeL (cnt 1 l) ∧ sizeL (cnt 1 l) ≤ cnt 0 (anewL l) + cnt 1 l ∧ cnt 1 (anewL l) ≤ cnt 1 l := by
  have key : ∀ (k t : List Slot), (k.foldl (fun t s => if s.st = 1 then layL t s.key s.val else t) t).length = t.length ∧ cnt 0 t ≤ cnt 0 (k.foldl (fun t s => if s.st = 1 then layL t s.key s.val else t) t) + cnt 1 k ∧ cnt 1 (k.foldl (fun t s => if s.st = 1 then layL t s.key s.val else t) t) ≤ cnt 1 t + cnt 1 k := by
    intro k
    induction k with
    | nil => intro t; simp [cnt]
    | cons a k ih =>
      intro t
      simp only [List.foldl_cons]
      obtain ⟨h1, h2, h3⟩ := ih (if a.st = 1 then layL t a.key a.val else t)
      rw [h1]
      have e : cnt 1 (a :: k) = cnt 1 k + (if a.st = 1 then 1 else 0) := by simp [cnt, List.countP_cons]
      rw [e]
      split
      · rename_i hs
        rw [if_pos hs] at h2 h3
        have := cnt_set (l := t) (i := (findL t a.key).1) (s := ⟨1, a.key, a.val⟩) (st := 0)
        have := cnt_set_up (l := t) (i := (findL t a.key).1) (s := ⟨1, a.key, a.val⟩) (st := 1)
        refine ⟨layL_length, ?_, ?_⟩
        · unfold layL at h2 h3 ⊢
          omega
        · unfold layL at h2 h3 ⊢
          omega
      · rename_i hs
        rw [if_neg hs] at h2 h3
        exact ⟨rfl, by omega, by omega⟩
  obtain ⟨h1, h2, h3⟩ := key l (List.replicate (sizeL (cnt 1 l)) zeroS)
  have e0 : cnt 0 (List.replicate (sizeL (cnt 1 l)) zeroS) = sizeL (cnt 1 l) := by simp [cnt, zeroS, List.countP_replicate]
  have e1 : cnt 1 (List.replicate (sizeL (cnt 1 l)) zeroS) = 0 := by simp [cnt, zeroS, List.countP_replicate]
  rw [List.length_replicate] at h1
  rw [e0] at h2
  rw [e1] at h3
  exact ⟨h1, h2, by rw [Nat.zero_add] at h3; exact h3⟩
/-- what Put does to a right table. -/
theorem putL_valid {l : List Slot} {k v : Int} (h : validB l = true) (hk : k ≠ 0) :
    ((putL l k v).2 = 0 ∧ validB (putL l k v).1 = true ∧ okT (putL l k v).1 ∧ (∀ k' v', Has (putL l k v).1 k' v' ↔ if k' = k then v' = v else Has l k' v') ∧ cnt 1 (putL l k v).1 ≤ cnt 1 l + 1) ∨
    ((putL l k v).2 = 6 ∧ (putL l k v).1 = l ∧ 64 < sizeL (cnt 1 l)) := by
  unfold putL
  rw [if_pos h, if_neg hk]
  by_cases hn : needL l k = true
  · rw [if_pos hn]
    by_cases hs : sizeL (cnt 1 l) ≤ 64
    · rw [if_pos hs]
      obtain ⟨a1, a2⟩ := valid_anew h hs
      obtain ⟨c1, c2, c3⟩ := anew_cnt (l := l)
      have hc := sizeL_cases (cnt 1 l)
      have h0 := cnt0_lay (l := anewL l) (k := k) (v := v)
      have hok := a1.lay (k := k) (v := v) hk (by omega)
      refine .inl ⟨rfl, valid_iff.2 (.inr ⟨hok, ?_⟩), hok, fun k' v' => ?_, ?_⟩
      · dsimp only; rw [layL_length, c1]; omega
      · rw [a1.lay_has, a2]
      · exact Nat.le_trans cnt_set_up (by omega)
    · rw [if_neg hs]
      exact .inr ⟨rfl, rfl, by omega⟩
  · rw [if_neg hn]
    rcases valid_iff.1 h with h0 | ⟨h1, h4⟩
    · exact absurd (by simp [needL, findL, h0]) hn
    · obtain ⟨hi, hfs⟩ := findL_spec (key := k) h1.pow
      have hle := h1.pow.le
      obtain ⟨s, hs⟩ : ∃ s, l[(findL l k).1]? = some s := ⟨_, List.getElem?_eq_getElem hi⟩
      have hc0 : l.length ≤ 4 * cnt 0 (layL l k v) := by
        have hcs := cnt0_set (x := ⟨1, k, v⟩) hs (show (1:Int) ≠ 0 by decide)
        unfold layL
        split at hcs
        · rename_i h0
          have hf : (findL l k).2 = false := by
            cases hf : (findL l k).2 with
            | false => rfl
            | true =>
              obtain ⟨s', a, b, _⟩ := hfs hf
              rw [a] at hs; cases hs; omega
          have hl0 : ¬ l.length = 0 := by omega
          simp only [needL, hf, hs, h0, hl0, Bool.not_false, Bool.true_and, decide_false, Bool.false_or, Option.any_some, decide_true, decide_eq_true_eq] at hn
          omega
        · omega
      have hok := h1.lay (k := k) (v := v) hk (by omega)
      exact .inl ⟨rfl, valid_iff.2 (.inr ⟨hok, by rw [layL_length]; exact hc0⟩), hok, fun k' v' => h1.lay_has, cnt_set_up⟩
/-- what Get tells of a right table. -/
theorem getL_valid {l : List Slot} {k : Int} (h : validB l = true) (hk : k ≠ 0) : (∃ v, getL l k = (v, 0) ∧ Has l k v) ∨ (getL l k = (0, 3) ∧ ∀ v, ¬ Has l k v) := by
  unfold getL
  rw [if_pos h, if_neg hk]
  rcases valid_iff.1 h with h0 | ⟨h1, _⟩
  · rw [if_neg (by simp [findL, h0])]
    exact .inr ⟨rfl, fun v hv => by have := hv.len; omega⟩
  · by_cases hf : (findL l k).2 = true
    · rw [if_pos hf]
      obtain ⟨s, a, b, c⟩ := h1.found hf
      exact .inl ⟨s.val, by simp [a], _, s, a, b, c, rfl⟩
    · rw [if_neg hf]
      exact .inr ⟨rfl, fun v hv => hf (h1.found_iff.2 ⟨v, hv⟩)⟩
theorem getL_eq {l l' : List Slot} {k : Int} (h : validB l = true) (h' : validB l' = true) (hh : ∀ v, Has l k v ↔ Has l' k v) : getL l k = getL l' k := by
  by_cases hk : k = 0
  · simp [getL, h, h', hk]
  rcases getL_valid h hk with ⟨v, e, a⟩ | ⟨e, a⟩
  · rcases getL_valid h' hk with ⟨v', e', a'⟩ | ⟨e', a'⟩
    · rw [e, e']
      rcases valid_iff.1 h with h0 | ⟨h1, _⟩
      · have := a.len; omega
      · rw [h1.has_uniq a ((hh v').2 a')]
    · exact absurd ((hh v).1 a) (a' v)
  · rcases getL_valid h' hk with ⟨v', e', a'⟩ | ⟨e', a'⟩
    · exact absurd ((hh v').2 a') (a v')
    · rw [e, e']
theorem getL_bad {l : List Slot} {k : Int} (h : ¬ validB l = true) : getL l k = (0, 2) := by simp [getL, h]
theorem delL_valid {l : List Slot} {k : Int} (h : validB l = true) : validB (delL l [k]).1 = true ∧ (delL l [k]).2.2 = 0 ∧ (∀ k' v', Has (delL l [k]).1 k' v' ↔ k' ≠ k ∧ Has l k' v') ∧ ((∃ v, Has l k v) ∧ (delL l [k]).2.1 = 1 ∨ (∀ v, ¬ Has l k v) ∧ (delL l [k]).2.1 = 0) := by
  have e : delL l [k] = ((delStep (l, 0) k).1, ((delStep (l, 0) k).2 : Int), 0) := by simp [delL, h]
  rw [e]
  unfold delStep
  by_cases hf : (findL l k).2 = true
  · have hl : ¬ l.length = 0 := by intro h0; simp [findL, h0] at hf
    obtain ⟨h1, h4⟩ := (valid_iff.1 h).resolve_left hl
    obtain ⟨a, b, c⟩ := h1.del hf
    rw [if_pos hf]
    exact ⟨valid_iff.2 (.inr ⟨a, by rw [b, List.length_set]; exact h4⟩), rfl, c, .inl ⟨h1.found_iff.1 hf, rfl⟩⟩
  · have hno : ∀ v, ¬ Has l k v := by
      intro v hv
      have hl : ¬ l.length = 0 := by have := hv.len; omega
      obtain ⟨h1, h4⟩ := (valid_iff.1 h).resolve_left hl
      exact hf (h1.found_iff.2 ⟨v, hv⟩)
    rw [if_neg hf]
    refine ⟨h, rfl, fun k' v' => ⟨fun hv => ⟨?_, hv⟩, And.right⟩, .inr ⟨hno, rfl⟩⟩
    rintro rfl
    exact hno v' hv
end Go.AM.G
