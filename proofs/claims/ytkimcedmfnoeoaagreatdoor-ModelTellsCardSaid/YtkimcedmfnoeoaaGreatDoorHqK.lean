/- Laws on a right heap's current objects. -/
import Derived.Test.YtkimcedmfnoeoaaGreatDoorHqA
set_option linter.unusedVariables false
set_option linter.unusedSimpArgs false
set_option maxRecDepth 100000
namespace Go.AM.G
open Go Go.AM
theorem curs_mem {l : List ObA} {a : Nat} : a ∈ curs l ↔ ∃ o, o ∈ l ∧ o.cur = true ∧ o.addr = a := by
 induction l with
 | nil => simp [curs]
 | cons o l ih =>
  unfold curs
  split
  ·rename_i h
   rw [List.mem_cons, ih]
   constructor
   ·rintro (rfl | ⟨o', h1, h2⟩)
    ·exact ⟨o, by simp, h, rfl⟩
    ·exact ⟨o', List.mem_cons_of_mem _ h1, h2⟩
   ·rintro ⟨o', h1, h2, h3⟩
    rcases List.mem_cons.1 h1 with rfl | h1
    ·exact .inl h3.symm
    ·exact .inr ⟨o', h1, h2, h3⟩
  ·rename_i h
   rw [ih]
   constructor
   ·rintro ⟨o', h1, h2⟩
    exact ⟨o', List.mem_cons_of_mem _ h1, h2⟩
   ·rintro ⟨o', h1, h2, h3⟩
    rcases List.mem_cons.1 h1 with rfl | h1
    ·exact absurd h2 h
    ·exact ⟨o', h1, h2, h3⟩
theorem curs_fnd {l : List ObA} {a : Nat} : a ∈ curs l ↔ (fnd l a).isSome = true := by
 rw [curs_mem]
 unfold fnd
 rw [List.find?_isSome]
 constructor
 ·rintro ⟨o, h1, h2, h3⟩
  exact ⟨o, h1, by simp [h2, h3]⟩
 ·rintro ⟨o, h1, h2⟩
  simp only [Bool.and_eq_true, beq_iff_eq] at h2
  exact ⟨o, h1, h2.2, h2.1⟩
theorem curs_rise : ∀ {l : List ObA}, l.Pairwise (fun a b => a.addr < b.addr) → (curs l).Pairwise (· < ·)
 | [], _ => List.Pairwise.nil
 | o :: l, h => by
  rw [List.pairwise_cons] at h
  unfold curs
  split
  ·rw [List.pairwise_cons]
   refine ⟨fun x hx => ?_, curs_rise h.2⟩
   obtain ⟨o', h1, _, rfl⟩ := curs_mem.1 hx
   exact h.1 o' h1
  ·exact curs_rise h.2
theorem rises_pair {l : List ObA} (h : rises l) : l.Pairwise (fun a b => a.addr < b.addr) := by
 rw [List.pairwise_iff_getElem]
 intro i j hi hj hij
 have := h i j hij hj
 simpa [ob, List.getD_eq_getElem?_getD, hi, hj] using this
theorem HeapA.right.cur {H : HeapA} (h : H.right) (wa : w64 H.na H.a) {a : Nat} (ha : a ∈ curs (obs H H.ns)) : a ≠ 0 ∧ a + 1 + H.a a % 256 ≤ H.na ∧ unOk (H.a a) ∧ (∃ o, fnd (obs H H.ns) a = some o ∧ o.w = H.a a) ∧ ∀ f, f < H.a a % 256 → (unM (H.a a)).testBit f = true → H.a (a + 1 + f) ≠ 0 → H.a (a + 1 + f) ∈ curs (obs H H.ns) := by
 have hw := h.2.1.wide h.1 wa
 have hs := curs_fnd.1 ha
 obtain ⟨o, ho⟩ := Option.isSome_iff_exists.1 hs
 obtain ⟨h1, h2, h3⟩ := fnd_is ho
 obtain ⟨i, hi, rfl⟩ := ob_of h3
 obtain ⟨c1, c2, c3, c4⟩ := hw.c i hi
 have hb := hw.b i hi
 rw [h1] at c1 c3 hb
 have hn : (ob (obs H H.ns) i).n = H.a a % 256 := by show (ob (obs H H.ns) i).w % 256 = _; rw [c3]
 rw [hn] at hb
 refine ⟨by omega, by omega, c3 ▸ c2, ⟨_, ho, c3⟩, fun f hf hbit hne => ?_⟩
 have hr := h.2.2.1 i hi h2 f (by rw [hn]; exact hf) (by rw [c3]; exact hbit)
 rw [h1] at hr
 rcases hr with hr | hr
 ·exact absurd hr hne
 ·exact curs_fnd.2 hr
end Go.AM.G
