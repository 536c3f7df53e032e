/- Is a span right: of the program. -/
import Derived.Test.YtkimcedmfnoeoaaGreatDoorHpE
set_option linter.unusedVariables false
set_option linter.unusedSimpArgs false
set_option maxRecDepth 100000
namespace Go.AM.G
open Go Go.AM
structure BitsA where
 N : Int
 n : Nat
 w : Nat → Nat
structure SpanA where
 first : Int
 pages : Int
 size : Int
 al : BitsA
 mr : BitsA
 swept : Bool
abbrev spanV (x : SpanA) (va vm : V) : List V := [.int .i64 x.first, .int .i64 x.pages, .int .i64 x.size, .int .i64 x.al.N, va, .int .i64 x.mr.N, vm, .bool x.swept]
def BitsA.ok (b : BitsA) : Prop := bitsOk b.N b.n b.w
def okB (P : Prop) (r : V) : Prop := (P ∧ r = .bool true) ∨ (¬ P ∧ r = .bool false)
def shaped (p s : Int) : Prop := (s = 0 ∧ 2 ≤ p ∧ p ≤ 4) ∨ ((s = 2 ∨ s = 4 ∨ s = 8 ∨ s = 16) ∧ p = 1)
def slotsI (s : Int) : Int := if s = 0 then 1 else if s = 2 then 8 else if s = 4 then 4 else if s = 8 then 2 else 1
def SpanA.sub (x : SpanA) : Prop := ∀ i : Nat, (i : Int) < x.mr.N → bit x.mr.w i = true → bit x.al.w i = true
def SpanA.ok (x : SpanA) : Prop := shaped x.pages x.size ∧ 0 ≤ x.first ∧ x.first + x.pages ≤ 1024 ∧ x.al.ok ∧ x.mr.ok ∧ x.al.N = slotsI x.size ∧ x.mr.N = slotsI x.size ∧ x.sub
structure SpRd (m : Mem) (x : SpanA) (va vm : V) : Prop where
 a : Rd m va 1 x.al.n (u64s x.al.w)
 k : Rd m vm 1 x.mr.n (u64s x.mr.w)
 wa : w64 x.al.n x.al.w
 wk : w64 x.mr.n x.mr.w
 na : x.al.n < 17592186044417
 nk : x.mr.n < 17592186044417
theorem SpRd.app {m g : Mem} {x : SpanA} {va vm : V} (h : SpRd m x va vm) : SpRd (m ++ g) x va vm := ⟨h.a.app, h.k.app, h.wa, h.wk, h.na, h.nk⟩
theorem shaped_spec {m : Mem} {p s : Int} : C S n_span_shaped [.int .i64 p, .int .i64 s] m (fun r m' => okB (shaped p s) r ∧ Grow m m') := by
 have G := Grow.refl m
 by_cases h0 : s = 0
 ·subst h0
  by_cases h1 : 2 ≤ p
  ·by_cases h2 : p ≤ 4
   ·refine fn rfl ?_
    exact .inl ⟨.inl ⟨rfl, h1, h2⟩, rfl⟩
   ·refine fn rfl ?_
    exact .inr ⟨fun h => by rcases h with h | h <;> omega, rfl⟩
  ·refine fn rfl ?_
   exact .inr ⟨fun h => by rcases h with h | h <;> omega, rfl⟩
 by_cases h1 : s = 2 ∨ s = 4 ∨ s = 8 ∨ s = 16
 case neg =>
  obtain ⟨a1, a2, a3, a4⟩ : ¬ s = 2 ∧ ¬ s = 4 ∧ ¬ s = 8 ∧ ¬ s = 16 := by omega
  clear h1
  refine fn rfl ?_
  refine into ?_
  exact .inr ⟨fun h => by rcases h with h | h <;> omega, rfl⟩
 by_cases h2 : p = 1
 ·subst h2
  rcases h1 with rfl | rfl | rfl | rfl
  all_goals
   refine fn rfl ?_
   refine into ?_
   exact .inl ⟨.inr ⟨by omega, rfl⟩, rfl⟩
 ·rcases h1 with rfl | rfl | rfl | rfl
  all_goals
   refine fn rfl ?_
   refine into ?_
   exact .inr ⟨fun h => by rcases h with h | h <;> omega, rfl⟩
theorem slots_spec {m : Mem} {s : Int} (hs : s = 0 ∨ s = 2 ∨ s = 4 ∨ s = 8 ∨ s = 16) : C S n_span_slots [.int .i64 s] m (fun r m' => r = .int .i64 (slotsI s) ∧ Grow m m') := by
 have G := Grow.refl m
 have e1 : IntKind.i64.wrap ((16 : Int).tdiv 2) = 8 := by decide
 have e2 : IntKind.i64.wrap ((16 : Int).tdiv 4) = 4 := by decide
 have e3 : IntKind.i64.wrap ((16 : Int).tdiv 8) = 2 := by decide
 have e4 : IntKind.i64.wrap ((16 : Int).tdiv 16) = 1 := by decide
 rcases hs with rfl | rfl | rfl | rfl | rfl
 all_goals
  refine fn rfl ?_
  trivial
theorem and_sub {n : Nat} {a b : Nat → Nat} (hb : w64 n b) : (∀ j, j < n → a j &&& b j = b j) ↔ ∀ i, i < 64 * n → bit b i = true → bit a i = true := by
 constructor
 ·intro h i hi hbi
  have h1 := h (i / 64) (by omega)
  unfold bit at hbi ⊢
  rw [← h1, Nat.testBit_and, Bool.and_eq_true] at hbi
  exact hbi.1
 ·intro h j hj
  apply Nat.eq_of_testBit_eq
  intro k
  rw [Nat.testBit_and]
  by_cases hk : k < 64
  ·have := h (64 * j + k) (by omega)
   unfold bit at this
   rw [show (64 * j + k) / 64 = j by omega, show (64 * j + k) % 64 = k by omega] at this
   cases h1 : (b j).testBit k with
   | false => rw [Bool.and_false]
   | true => rw [this h1, Bool.true_and]
  ·have : (b j).testBit k = false := Nat.testBit_lt_two_pow (Nat.lt_of_lt_of_le (hb j hj) (by exact Nat.pow_le_pow_right (n := 2) (by decide) (show 64 ≤ k by omega)))
   rw [this, Bool.and_false]
theorem SpanA.sub_iff {x : SpanA} (hk : x.mr.ok) (hn : x.al.n = x.mr.n) (hw : w64 x.mr.n x.mr.w) : (∀ j, j < x.mr.n → x.al.w j &&& x.mr.w j = x.mr.w j) ↔ x.sub := by
 rw [and_sub hw]
 obtain ⟨k1, k2, k3, k4⟩ := hk
 constructor
 ·intro h i hi
  exact h i (by omega)
 ·intro h i hi hb
  by_cases h1 : (i : Int) < x.mr.N
  ·exact h i h1 hb
  ·rw [k4 i (by omega) hi] at hb; cases hb
theorem right_spec {m : Mem} {x : SpanA} {va vm : V} (h : SpRd m x va vm) : C S n_span_right [.agg (spanV x va vm)] m (fun r m' => okB x.ok r ∧ Grow m m') := by
 have A := h.a.ar
 have B := h.k.ar
 refine fn rfl ?_
 refine shaped_spec.mono ?_
 rintro r _ ⟨hs, ⟨g1, rfl⟩⟩
 rw [aft_mk]
 rcases hs with ⟨hs, rfl⟩ | ⟨hs, rfl⟩
 case inr =>
  have h' : ¬ x.ok := fun e => hs e.1
  clear hs
  refine am ?_
  exact ⟨.inr ⟨id, rfl⟩, _, rfl⟩
 have hp : 1 ≤ x.pages ∧ x.pages ≤ 4 := by rcases hs with h | h <;> omega
 have hsz : x.size = 0 ∨ x.size = 2 ∨ x.size = 4 ∨ x.size = 8 ∨ x.size = 16 := by rcases hs with h | h <;> omega
 have hs' : id (shaped x.pages x.size) := hs
 clear hs
 by_cases h1 : x.first < 0
 ·have h' : ¬ x.ok := fun e => by have := e.2.1; omega
  clear hp hsz
  refine am ?_
  exact ⟨.inr ⟨id, rfl⟩, _, rfl⟩
 have w1 : IntKind.i64.wrap (1024 - x.pages) = 1024 - x.pages := by rw [wrap_i64] <;> omega
 by_cases h2 : 1024 - x.pages < x.first
 ·have h' : ¬ x.ok := fun e => by have := e.2.2.1; omega
  clear hp hsz
  refine am ?_
  exact ⟨.inr ⟨id, rfl⟩, _, rfl⟩
 have h3 : id (0 ≤ x.first ∧ x.first + x.pages ≤ 1024) := ⟨by omega, by omega⟩
 have hsz' : id (x.size = 0 ∨ x.size = 2 ∨ x.size = 4 ∨ x.size = 8 ∨ x.size = 16) := hsz
 clear hp hsz
 refine am ?_
 refine (slots_spec hsz').mono ?_
 rintro _ _ ⟨rfl, ⟨g2, rfl⟩⟩
 rw [aft_mk]
 refine am ?_
 refine (Both_spec h.a.app h.k.app h.wa h.wk h.na h.nk).mono ?_
 rintro r _ ⟨g3, rfl, hr⟩
 rw [aft_mk]
 rcases hr with ⟨k1, k2, k3, v', rfl, hv'⟩ | ⟨hno, rfl⟩
 case inr =>
  have h' : ¬ x.ok := fun e => hno ⟨e.2.2.2.1, e.2.2.2.2.1, by have := e.2.2.2.2.2.1; have := e.2.2.2.2.2.2.1; omega⟩
  clear hno
  refine am ?_
  exact ⟨.inr ⟨id, rfl⟩, _, rfl⟩
 have c' := hv'.cell
 have k12 : id (x.al.ok ∧ x.mr.ok) := ⟨k1, k2⟩
 have hnn : x.al.n = x.mr.n := by have := k1.2.2.1; have := k2.2.2.1; omega
 clear k1 k2
 by_cases h4 : x.al.N = slotsI x.size
 case neg =>
  have h' : ¬ x.ok := fun e => h4 e.2.2.2.2.2.1
  clear k3 hnn
  refine am ?_
  exact ⟨.inr ⟨id, rfl⟩, _, rfl⟩
 have h5 : x.mr.N = slotsI x.size := by omega
 have R := hv'.rd (G := [Blk.cells true [[V.int .i64 x.al.N, v']]])
 simp only [List.append_assoc, List.cons_append] at R
 have hsub := SpanA.sub_iff k12.2 hnn h.wk
 have h4' : id (x.al.N = slotsI x.size ∧ x.mr.N = slotsI x.size) := ⟨h4, h5⟩
 have e4 : (x.al.N = slotsI x.size) = True := eq_true h4
 have e5 : (x.mr.N = slotsI x.size) = True := eq_true h5
 have hnn' : id (x.al.n = x.mr.n) := hnn
 clear h4 h5 k3 hnn
 refine am ?_
 refine (Equal_spec R h.k.app (by have := h.na; exact this)).mono ?_
 rintro _ _ ⟨rfl, rfl⟩
 rw [aft_mk]
 have hnn : x.al.n = x.mr.n := hnn'
 by_cases hf : x.sub
 ·have h' : id x.ok := ⟨hs', h3.1, h3.2, k12.1, k12.2, h4'.1, h4'.2, hf⟩
  rw [decide_eq_true (show x.al.n = x.mr.n ∧ ∀ i, i < x.al.n → x.al.w i &&& x.mr.w i = x.mr.w i from ⟨hnn, fun j hj => hsub.2 hf j (by omega)⟩)]
  clear hsub hf hnn
  refine am ?_
  exact ⟨.inl ⟨h', rfl⟩, _, rfl⟩
 ·have h' : ¬ x.ok := fun e => hf e.2.2.2.2.2.2.2
  rw [decide_eq_false (show ¬ (x.al.n = x.mr.n ∧ ∀ i, i < x.al.n → x.al.w i &&& x.mr.w i = x.mr.w i) from fun e => hf (hsub.1 fun j hj => e.2 j (by omega)))]
  clear hsub hf hnn
  refine am ?_
  exact ⟨.inr ⟨id, rfl⟩, _, rfl⟩
end Go.AM.G
set_option maxRecDepth 100000
namespace Go.AM.G
open Go Go.AM
structure SpsRd (m : Mem) (sv : V) (n : Nat) (sp : Nat → SpanA) (va vm : Nat → V) : Prop where
 s : Rd m sv 8 n (fun i => spanV (sp i) (va i) (vm i))
 e : ∀ i, i < n → SpRd m (sp i) (va i) (vm i)
theorem SpsRd.app {m g : Mem} {sv : V} {n : Nat} {sp : Nat → SpanA} {va vm : Nat → V} (h : SpsRd m sv n sp va vm) : SpsRd (m ++ g) sv n sp va vm := ⟨h.s.app, fun i hi => (h.e i hi).app⟩
def spansOk (n : Nat) (sp : Nat → SpanA) : Prop := n ≤ 256 ∧ ∀ i, i < n → (sp i).ok ∧ (0 < i → (sp (i - 1)).first + (sp (i - 1)).pages ≤ (sp i).first)
theorem end_spec {m : Mem} {x : SpanA} {va vm : V} (ha : va.isCell = true) (hb : vm.isCell = true) (h : x.ok) : C S n_span_end [.agg (spanV x va vm)] m (fun r m' => r = .int .i64 (x.first + x.pages) ∧ Grow m m') := by
 have w : IntKind.i64.wrap (x.first + x.pages) = x.first + x.pages := by
  have := h.1; have := h.2.1; have := h.2.2.1
  have : 1 ≤ x.pages ∧ x.pages ≤ 4 := by rcases h.1 with h | h <;> omega
  rw [wrap_i64] <;> omega
 clear h
 refine fn rfl ?_
 exact (Grow.refl _).app
theorem spans_Check_spec {m : Mem} {sv : V} {n : Nat} {sp : Nat → SpanA} {va vm : Nat → V} (h : SpsRd m sv n sp va vm) (hn : n < 17592186044417) : C S n_span_Check [sv] m (fun r m' => okE (spansOk n sp) r ∧ Grow m m') := by
 have A := h.s.ar
 by_cases h1 : 256 < n
 ·have c1 : ((256 : Int) < (n : Int)) = True := eq_true (by omega)
  have h2 : ¬ spansOk n sp := fun e => by have := e.1; omega
  clear h1
  refine fn rfl ?_
  exact ⟨.inr ⟨id, rfl⟩, Grow.refl _⟩
 have c1 : ((256 : Int) < (n : Int)) = False := eq_false (by omega)
 refine fn rfl ?_
 refine range (α := Unit) n (fun _ => [(0, sv), (8, sv)]) (fun k _ M => (∃ g, M = m ++ g) ∧ ∀ i, i < k → (sp i).ok ∧ (0 < i → (sp (i - 1)).first + (sp (i - 1)).pages ≤ (sp i).first)) () ⟨⟨[], by simp⟩, fun i hi => absurd hi (Nat.not_lt_zero _)⟩ ?_ ?_
 ·rintro k ⟨⟩ fr _ hk F ⟨⟨g, rfl⟩, hj⟩
  have hj' : id (∀ i, i < k → (sp i).ok ∧ (0 < i → (sp (i - 1)).first + (sp (i - 1)).pages ≤ (sp i).first)) := hj
  clear hj
  have e := h.e k hk
  have A1 := e.a.ar
  have A2 := e.k.ar
  refine am ?_
  refine (right_spec e.app).mono ?_
  rintro r _ ⟨hr, ⟨g2, rfl⟩⟩
  rcases hr with ⟨hr, rfl⟩ | ⟨hr, rfl⟩
  case inr =>
   have h2 : ¬ spansOk n sp := fun e => hr (e.2 k hk).1
   clear hr
   refine am ?_
   exact ⟨.inr ⟨id, rfl⟩, _, rfl⟩
  have hr' : id (sp k).ok := hr
  clear hr
  by_cases h0 : 0 < k
  ·have c2 : ((0 : Int) < (k : Int)) = True := eq_true (by omega)
   have w1 : IntKind.i64.wrap ((k : Int) - 1) = ((k - 1 : Nat) : Int) := by rw [wrap_i64] <;> omega
   have hk1 : k - 1 < n := by omega
   have e2 := h.e (k - 1) hk1
   have B1 := e2.a.ar
   have B2 := e2.k.ar
   have hp := (hj' (k - 1) (by omega)).1
   have hp' : id (sp (k - 1)).ok := hp
   clear hp
   refine am ?_
   refine (end_spec B1.2.1 B2.2.1 hp').mono ?_
   rintro _ _ ⟨rfl, ⟨g3, rfl⟩⟩
   by_cases h3 : (sp k).first < (sp (k - 1)).first + (sp (k - 1)).pages
   ·have h2 : ¬ spansOk n sp := fun e => by have := (e.2 k hk).2 h0; omega
    refine am ?_
    exact ⟨.inr ⟨id, rfl⟩, _, rfl⟩
   ·refine am ?_
    refine ⟨(), byam, ⟨_, rfl⟩, fun i hi => ?_⟩
    by_cases hik : i = k
    ·subst hik; exact ⟨hr', fun _ => by omega⟩
    ·exact hj' i (by omega)
  ·have c2 : ((0 : Int) < (k : Int)) = False := eq_false (by omega)
   refine am ?_
   refine ⟨(), byam, ⟨_, rfl⟩, fun i hi => ?_⟩
   by_cases hik : i = k
   ·subst hik; exact ⟨hr', fun h => absurd h h0⟩
   ·exact hj' i (by omega)
 ·rintro ⟨⟩ fr _ F ⟨⟨g, rfl⟩, hj⟩
  have h2 : id (spansOk n sp) := ⟨by omega, hj⟩
  clear hj
  refine am ?_
  exact ⟨.inl ⟨h2, rfl⟩, _, rfl⟩
theorem arena_Check_spec {m : Mem} {v : V} {z n : Nat} {f : Nat → List V} (hv : Rd m v z n f) : C S n_arena_Check [.agg [v]] m (fun r m' => okE (n ≤ 16384) r ∧ Grow m m') := by
 have A := hv.ar
 by_cases h1 : 16384 < n
 ·have c1 : ((16384 : Int) < (n : Int)) = True := eq_true (by omega)
  refine fn rfl ?_
  exact ⟨.inr ⟨by omega, rfl⟩, (Grow.refl _).app⟩
 ·have c1 : ((16384 : Int) < (n : Int)) = False := eq_false (by omega)
  refine fn rfl ?_
  exact ⟨.inl ⟨by omega, rfl⟩, (Grow.refl _).app⟩
theorem pages_Check_spec {m : Mem} {v : V} {n : Nat} {w : Nat → Nat} {N : Int} (hv : Rd m v 1 n (u64s w)) (hw : w64 n w) (hn : n < 17592186044417) : C S n_pages_Check [.agg [.int .i64 N, v]] m (fun r m' => okE (bitsOk N n w) r ∧ Grow m m') := by
 have A := hv.ar
 refine fn rfl ?_
 refine (bits_Check_spec hv.app hw hn).mono ?_
 rintro r _ ⟨h, ⟨g, rfl⟩⟩
 refine am ?_
 exact ⟨_, rfl⟩
end Go.AM.G
set_option maxRecDepth 100000
namespace Go.AM.G
open Go Go.AM
theorem Many_spec {m : Mem} {s : Int} (hs : s = 0 ∨ s = 2 ∨ s = 4 ∨ s = 8 ∨ s = 16) : C S n_ref05_Many [.int .i64 s] m (fun r m' => r = .int .i64 (slotsI s) ∧ Grow m m') := by
 have G := Grow.refl m
 have e1 : IntKind.i64.wrap ((16 : Int).tdiv 2) = 8 := by decide
 have e2 : IntKind.i64.wrap ((16 : Int).tdiv 4) = 4 := by decide
 have e3 : IntKind.i64.wrap ((16 : Int).tdiv 8) = 2 := by decide
 have e4 : IntKind.i64.wrap ((16 : Int).tdiv 16) = 1 := by decide
 rcases hs with rfl | rfl | rfl | rfl | rfl
 all_goals
  refine fn rfl ?_
  trivial
theorem slots_le (s : Int) : 1 ≤ slotsI s ∧ slotsI s ≤ 8 := by
  unfold slotsI; repeat' split
  all_goals omega
theorem ref_right_l {m g : Mem} {x : SpanA} {va vm : V} {fr : Frame} (h : SpRd m x va vm) (f1 : fr 1 = .ptr m.length 0 0) (hs' : shaped x.pages x.size) (h3 : 0 ≤ x.first ∧ x.first + x.pages ≤ 1024) (k1 : x.al.ok) (k2 : x.mr.ok) (k3 : x.al.N = slotsI x.size) (k4 : x.mr.N = slotsI x.size) :
  W S (.loop ref05_right_l0) (put fr 5 (.int .i64 0)) (m ++ .cells true [spanV x va vm] :: g) (outOf 0 (andThen S (.seq (.region [⟨some 2, none, .mv (.c (.bool true)), none, []⟩]) .ret) (bodyQ [.t 2] fun r m' => okB x.ok r ∧ Grow m m'))) := by
 have A := h.a.ar
 have B := h.k.ar
 have hsl := slots_le x.size
 obtain ⟨sl, hsl2⟩ : ∃ sl : Nat, slotsI x.size = sl := ⟨(slotsI x.size).toNat, by omega⟩
 have n1 : x.al.n = 1 := by have := k1.2.2.1; omega
 have n2 : x.mr.n = 1 := by have := k2.2.2.1; omega
 have k34 : id (shaped x.pages x.size ∧ (0 ≤ x.first ∧ x.first + x.pages ≤ 1024) ∧ x.al.ok ∧ x.mr.ok ∧ x.al.N = slotsI x.size ∧ x.mr.N = slotsI x.size) := ⟨hs', h3, k1, k2, k3, k4⟩
 have e2 : x.mr.N = (sl : Int) := by omega
 have hs8 : sl ≤ 8 := by omega
 have n12 : id (x.al.n = 1 ∧ x.mr.n = 1) := ⟨n1, n2⟩
 clear k1 k2 k3 k4 hsl hs' h3 n1 n2 hsl2
 let I := fun (j : Nat) (fr : Frame) (M' : Mem) => ∃ i : Nat, i ≤ sl ∧ j = sl - i ∧ Has fr [(1, .ptr m.length 0 0), (5, .int .i64 (i : Nat))] ∧ (∃ g, M' = m ++ .cells true [spanV x va vm] :: g) ∧ ∀ k, k < i → bit x.mr.w k = true → bit x.al.w k = true
 refine W_loop I ?_ sl ⟨0, by omega, rfl, byam, ⟨g, rfl⟩, fun k h => absurd h (Nat.not_lt_zero _)⟩
 rintro j fr _ ⟨i, hi, rfl, F, ⟨g, rfl⟩, hk⟩
 have hk' : id (∀ k, k < i → bit x.mr.w k = true → bit x.al.w k = true) := hk
 clear hk f1
 have n1 := n12.1
 have n2 := n12.2
 have R1 := ref01_Is_spec (m := m ++ .cells true [spanV x va vm] :: g) (i := i) (N := sl) h.k.app h.wk
 have R2 := fun g' => ref01_Is_spec (m := m ++ .cells true [spanV x va vm] :: g') (i := i) (N := x.al.N) h.a.app h.wa
 rw [n2] at R1
 rw [n1] at R2
 by_cases h4 : i < sl
 ·have c3 : ((i : Int) < (sl : Int)) = True := eq_true (by omega)
  have w4 : IntKind.i64.wrap ((i : Int) + 1) = ((i + 1 : Nat) : Int) := by rw [wrap_i64] <;> omega
  clear n1 n2
  refine into ?_
  refine (R1 (by omega) (by omega)).mono ?_
  rintro _ _ ⟨rfl, ⟨g2, rfl⟩⟩
  cases hb : bit x.mr.w i with
  | false =>
   clear R1 R2
   refine am ?_
   exact ⟨_, by omega, i + 1, by omega, rfl, byam, ⟨_, rfl⟩, fun k h1 h2 => by
    by_cases e : k = i
    ·subst e; rw [hb] at h2; cases h2
    ·exact hk' k (by omega) h2⟩
  | true =>
   have R2' := Nonempty.intro (PLift.up R2)
   clear R1 R2
   refine am ?_
   obtain ⟨⟨R2⟩⟩ := R2'
   refine (R2 _ (by omega) (by omega)).mono ?_
   rintro _ _ ⟨rfl, ⟨g3, rfl⟩⟩
   clear R2
   cases hb2 : bit x.al.w i with
   | true =>
    refine am ?_
    exact ⟨_, by omega, i + 1, by omega, rfl, byam, ⟨_, rfl⟩, fun k h1 h2 => by
     by_cases e : k = i
     ·subst e; exact hb2
     ·exact hk' k (by omega) h2⟩
   | false =>
    have h5 : ¬ x.ok := fun e => by have := e.2.2.2.2.2.2.2 i (by omega) hb; rw [hb2] at this; cases this
    refine am ?_
    exact ⟨.inr ⟨id, rfl⟩, _, rfl⟩
 ·have c3 : ((i : Int) < (sl : Int)) = False := eq_false (by omega)
  have h5 : id x.ok := ⟨k34.1, k34.2.1.1, k34.2.1.2, k34.2.2.1, k34.2.2.2.1, k34.2.2.2.2.1, k34.2.2.2.2.2, fun k h1 h2 => hk' k (by omega) h2⟩
  clear R1 R2 n1 n2
  refine into ?_
  exact ⟨.inl ⟨h5, rfl⟩, _, rfl⟩
theorem ref_right_spec {m : Mem} {x : SpanA} {va vm : V} (h : SpRd m x va vm) : C S n_ref05_right [.agg (spanV x va vm)] m (fun r m' => okB x.ok r ∧ Grow m m') := by
 have A := h.a.ar
 have B := h.k.ar
 have G0 : Grow m (m ++ [Blk.cells true [spanV x va vm]]) := (Grow.refl _).app
 by_cases hsh : shaped x.pages x.size
 case neg =>
  have h' : ¬ x.ok := fun e => hsh e.1
  by_cases s0 : x.size = 0
  ·by_cases p2 : 2 ≤ x.pages
   ·have p4 : ¬ x.pages ≤ 4 := fun e => hsh (.inl ⟨s0, p2, e⟩)
    clear hsh
    refine fn rfl ?_
    exact .inr ⟨id, rfl⟩
   ·clear hsh
    refine fn rfl ?_
    exact .inr ⟨id, rfl⟩
  by_cases s2 : x.size = 2
  ·have p1 : ¬ x.pages = 1 := fun e => hsh (.inr ⟨by omega, e⟩)
   clear hsh
   refine fn rfl ?_
   exact .inr ⟨id, rfl⟩
  by_cases s4 : x.size = 4
  ·have p1 : ¬ x.pages = 1 := fun e => hsh (.inr ⟨by omega, e⟩)
   clear hsh
   refine fn rfl ?_
   exact .inr ⟨id, rfl⟩
  by_cases s8 : x.size = 8
  ·have p1 : ¬ x.pages = 1 := fun e => hsh (.inr ⟨by omega, e⟩)
   clear hsh
   refine fn rfl ?_
   exact .inr ⟨id, rfl⟩
  by_cases s16 : x.size = 16
  ·have p1 : ¬ x.pages = 1 := fun e => hsh (.inr ⟨by omega, e⟩)
   clear hsh
   refine fn rfl ?_
   exact .inr ⟨id, rfl⟩
  ·clear hsh
   refine fn rfl ?_
   exact .inr ⟨id, rfl⟩
 obtain ⟨fi, pg, sz, al, mr, sw⟩ := x
 dsimp only at *
 have hp : 1 ≤ pg ∧ pg ≤ 4 := by rcases hsh with h | h <;> omega
 have hs' : id (shaped pg sz) := hsh
 have w1 : IntKind.i64.wrap (1024 - pg) = 1024 - pg := by rw [wrap_i64] <;> omega
 have w1' : IntKind.i64.wrap 1023 = 1023 := by decide
 have hcase : (sz = 0 ∧ 2 ≤ pg ∧ pg ≤ 4) ∨ (sz = 2 ∧ pg = 1) ∨ (sz = 4 ∧ pg = 1) ∨ (sz = 8 ∧ pg = 1) ∨ (sz = 16 ∧ pg = 1) := by rcases hsh with h | h <;> omega
 have hsz := PLift.up (show sz = 0 ∨ sz = 2 ∨ sz = 4 ∨ sz = 8 ∨ sz = 16 from by rcases hsh with h | h <;> omega)
 clear hsh hp
 by_cases h1 : fi < 0
 ·have h' : ¬ SpanA.ok ⟨fi, pg, sz, al, mr, sw⟩ := fun e => by have : 0 ≤ fi := e.2.1; omega
  rcases hcase with ⟨rfl, e2, e3⟩ | ⟨rfl, rfl⟩ | ⟨rfl, rfl⟩ | ⟨rfl, rfl⟩ | ⟨rfl, rfl⟩
  all_goals
   refine fn rfl ?_
   exact .inr ⟨id, rfl⟩
 by_cases h2 : 1024 - pg < fi
 ·have h' : ¬ SpanA.ok ⟨fi, pg, sz, al, mr, sw⟩ := fun e => by have : fi + pg ≤ 1024 := e.2.2.1; omega
  rcases hcase with ⟨rfl, e2, e3⟩ | ⟨rfl, rfl⟩ | ⟨rfl, rfl⟩ | ⟨rfl, rfl⟩ | ⟨rfl, rfl⟩
  all_goals
   try simp only [Int.reduceSub] at h2
   refine fn rfl ?_
   exact .inr ⟨id, rfl⟩
 have h3 := PLift.up (show 0 ≤ fi ∧ fi + pg ≤ 1024 from ⟨by omega, by omega⟩)
 obtain ⟨sl, hsl0⟩ : ∃ sl, slotsI sz = sl := ⟨_, rfl⟩
 have hsl := PLift.up hsl0
 clear hsl0
 rcases hcase with ⟨rfl, e2, e3⟩ | ⟨rfl, rfl⟩ | ⟨rfl, rfl⟩ | ⟨rfl, rfl⟩ | ⟨rfl, rfl⟩
 all_goals
  try simp only [Int.reduceSub] at h2
  refine fn rfl ?_
  refine (ref01_Check_spec h.a.app h.wa h.na).mono ?_
  rintro r _ ⟨hr, ⟨g1, rfl⟩⟩
  rcases hr with ⟨hr, rfl⟩ | ⟨hr, rfl⟩
  case inr =>
   have h' := PLift.up hr
   clear hr
   refine am ?_
   exact ⟨.inr ⟨fun e => h'.down e.2.2.2.1, rfl⟩, _, rfl⟩
  have k1 := PLift.up hr
  clear hr
  refine am ?_
  refine (ref01_Check_spec h.k.app h.wk h.nk).mono ?_
  rintro r _ ⟨hr, ⟨g2, rfl⟩⟩
  rcases hr with ⟨hr, rfl⟩ | ⟨hr, rfl⟩
  case inr =>
   have h' := PLift.up hr
   clear hr
   refine am ?_
   exact ⟨.inr ⟨fun e => h'.down e.2.2.2.2.1, rfl⟩, _, rfl⟩
  have k2 := PLift.up hr
  clear hr
  refine am ?_
  refine (Many_spec hsz.down).mono ?_
  rintro _ _ ⟨rfl, ⟨g3, rfl⟩⟩
  rw [hsl.down]
  by_cases k3 : al.N = sl
  case neg =>
   have h' := PLift.up k3
   refine am ?_
   exact ⟨.inr ⟨fun e => h'.down (e.2.2.2.2.2.1.trans hsl.down), rfl⟩, _, rfl⟩
  have k3' := PLift.up k3
  have k3 := eq_true k3
  refine am ?_
  refine (Many_spec hsz.down).mono ?_
  rintro _ _ ⟨rfl, ⟨g4, rfl⟩⟩
  rw [hsl.down]
  by_cases k4 : mr.N = sl
  case neg =>
   have h' := PLift.up k4
   refine am ?_
   exact ⟨.inr ⟨fun e => h'.down (e.2.2.2.2.2.2.1.trans hsl.down), rfl⟩, _, rfl⟩
  have k4' := PLift.up k4
  have k4 := eq_true k4
  refine am ?_
  exact ref_right_l (x := ⟨fi, _, _, al, mr, sw⟩) h (by simp [put]) hs' h3.down k1.down k2.down (k3'.down.trans hsl.down.symm) (k4'.down.trans hsl.down.symm)
theorem ref_spans_Check_spec {m : Mem} {sv : V} {n : Nat} {sp : Nat → SpanA} {va vm : Nat → V} (h : SpsRd m sv n sp va vm) (hn : n < 17592186044417) : C S n_ref05_Check [sv] m (fun r m' => okE (spansOk n sp) r ∧ Grow m m') := by
 have A := h.s.ar
 by_cases h1 : 256 < n
 ·have c1 : ((256 : Int) < (n : Int)) = True := eq_true (by omega)
  have h2 : ¬ spansOk n sp := fun e => by have := e.1; omega
  clear h1
  refine fn rfl ?_
  exact ⟨.inr ⟨id, rfl⟩, Grow.refl _⟩
 have c1 : ((256 : Int) < (n : Int)) = False := eq_false (by omega)
 refine fn rfl ?_
 refine range (α := Unit) n (fun _ => [(0, sv), (8, sv)]) (fun k _ M => (∃ g, M = m ++ g) ∧ ∀ i, i < k → (sp i).ok ∧ (0 < i → (sp (i - 1)).first + (sp (i - 1)).pages ≤ (sp i).first)) () ⟨⟨[], by simp⟩, fun i hi => absurd hi (Nat.not_lt_zero _)⟩ ?_ ?_
 ·rintro k ⟨⟩ fr _ hk F ⟨⟨g, rfl⟩, hj⟩
  have hj' := PLift.up hj
  clear hj
  have e := h.e k hk
  have A1 := e.a.ar
  have A2 := e.k.ar
  refine am ?_
  refine (ref_right_spec e.app).mono ?_
  rintro r _ ⟨hr, ⟨g2, rfl⟩⟩
  rcases hr with ⟨hr, rfl⟩ | ⟨hr, rfl⟩
  case inr =>
   have h2 : ¬ spansOk n sp := fun e => hr (e.2 k hk).1
   clear hr
   refine am ?_
   exact ⟨.inr ⟨id, rfl⟩, _, rfl⟩
  have hr' := PLift.up hr
  clear hr
  by_cases h0 : 0 < k
  ·have c2 : ((0 : Int) < (k : Int)) = True := eq_true (by omega)
   have w1 : IntKind.i64.wrap ((k : Int) - 1) = ((k - 1 : Nat) : Int) := by rw [wrap_i64] <;> omega
   have hk1 : k - 1 < n := by omega
   have w2 : IntKind.i64.wrap ((sp (k - 1)).first + (sp (k - 1)).pages) = (sp (k - 1)).first + (sp (k - 1)).pages := by
    have hp := (hj'.down (k - 1) (by omega)).1
    have := hp.2.1; have := hp.2.2.1
    have : 1 ≤ (sp (k - 1)).pages ∧ (sp (k - 1)).pages ≤ 4 := by rcases hp.1 with h | h <;> omega
    rw [wrap_i64] <;> omega
   by_cases h3 : (sp k).first < (sp (k - 1)).first + (sp (k - 1)).pages
   ·have h2 : ¬ spansOk n sp := fun e => by have := (e.2 k hk).2 h0; omega
    refine am ?_
    exact ⟨.inr ⟨id, rfl⟩, _, rfl⟩
   ·refine am ?_
    refine ⟨(), byam, ⟨_, rfl⟩, fun i hi => ?_⟩
    by_cases hik : i = k
    ·subst hik; exact ⟨hr'.down, fun _ => by omega⟩
    ·exact hj'.down i (by omega)
  ·have c2 : ((0 : Int) < (k : Int)) = False := eq_false (by omega)
   refine am ?_
   refine ⟨(), byam, ⟨_, rfl⟩, fun i hi => ?_⟩
   by_cases hik : i = k
   ·subst hik; exact ⟨hr'.down, fun h => absurd h h0⟩
   ·exact hj'.down i (by omega)
 ·rintro ⟨⟩ fr _ F ⟨⟨g, rfl⟩, hj⟩
  have h2 := PLift.up (show spansOk n sp from ⟨by omega, hj⟩)
  clear hj
  refine am ?_
  exact ⟨.inl ⟨h2.down, rfl⟩, _, rfl⟩
theorem ref_arena_Check_spec {m : Mem} {v : V} {z n : Nat} {f : Nat → List V} (hv : Rd m v z n f) : C S n_ref02_Check [.agg [v]] m (fun r m' => okE (n ≤ 16384) r ∧ Grow m m') := by
 have A := hv.ar
 by_cases h1 : 16384 < n
 ·have c1 : ((16384 : Int) < (n : Int)) = True := eq_true (by omega)
  refine fn rfl ?_
  exact ⟨.inr ⟨by omega, rfl⟩, (Grow.refl _).app⟩
 ·have c1 : ((16384 : Int) < (n : Int)) = False := eq_false (by omega)
  refine fn rfl ?_
  exact ⟨.inl ⟨by omega, rfl⟩, (Grow.refl _).app⟩
theorem ref_pages_Check_spec {m : Mem} {v : V} {n : Nat} {w : Nat → Nat} {N : Int} (hv : Rd m v 1 n (u64s w)) (hw : w64 n w) (hn : n < 17592186044417) : C S n_ref03_Check [.agg [.int .i64 N, v]] m (fun r m' => okE (bitsOk N n w) r ∧ Grow m m') := by
 have A := hv.ar
 refine fn rfl ?_
 refine (ref01_Check_spec hv.app hw hn).mono ?_
 rintro r _ ⟨h, ⟨g, rfl⟩⟩
 refine am ?_
 exact ⟨_, rfl⟩
end Go.AM.G
