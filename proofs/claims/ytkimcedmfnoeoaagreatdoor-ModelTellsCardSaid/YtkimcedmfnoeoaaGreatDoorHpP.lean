/- An object is found by its address: by halving, and from the first on. -/
import Derived.Test.YtkimcedmfnoeoaaGreatDoorHpM
set_option linter.unusedVariables false
set_option linter.unusedSimpArgs false
set_option maxRecDepth 100000
namespace Go.AM.G
open Go Go.AM
def ob0 : ObA := ⟨0, 0, 0, 0, false⟩
def ob (l : List ObA) (i : Nat) : ObA := l.getD i ob0
abbrev zOb : List V := [.int .i64 0, .int .i64 0, .int .u64 0, .int .i64 0, .int .u64 0, .bool false]
abbrev Obs (m : Mem) (v : V) (l : List ObA) : Prop := Rd m v 6 l.length (fun i => obV (ob l i))
theorem obs_map {l : List ObA} : l.map obV = (List.range l.length).map fun i => obV (ob l i) := by
 apply List.ext_getElem?
 intro i
 simp only [List.getElem?_map, List.getElem?_range, ob, List.getD_eq_getElem?_getD]
 by_cases h : i < l.length
 ·simp [h]
 ·simp [h]
theorem Gw.obs {g A G : Mem} {v : V} {l : List ObA} (h : Gw A.length g v 6 (l.map obV)) : Obs (A ++ (g ++ G)) v l := .inl (obs_map ▸ h.sl)
def rises (l : List ObA) : Prop := ∀ p q, p < q → q < l.length → (ob l p).addr < (ob l q).addr
def fnd (l : List ObA) (a : Nat) : Option ObA := l.find? fun o => o.addr == a && o.cur
def fndV (x : Option ObA) : V :=
 match x with
 | some o => .tup [.agg (obV o), .bool true]
 | none => .tup [.agg zOb, .bool false]
def cmpI (a b : Nat) : Int := if a < b then -1 else if b < a then 1 else 0
theorem isNaN_spec {m : Mem} {a : Nat} : C S n_cmp_isNaN_uint64 [.int .u64 (a : Nat)] m (fun r m' => r = .bool false ∧ Grow m m') := by
 have G := Grow.refl m
 refine fn rfl ?_
 trivial
theorem Compare_spec {m : Mem} {a b : Nat} : C S n_cmp_Compare_uint64 [.int .u64 (a : Nat), .int .u64 (b : Nat)] m (fun r m' => r = .int .i64 (cmpI a b) ∧ Grow m m') := by
 refine fn rfl ?_
 refine isNaN_spec.mono ?_
 rintro _ _ ⟨rfl, ⟨g1, rfl⟩⟩
 refine am ?_
 refine isNaN_spec.mono ?_
 rintro _ _ ⟨rfl, ⟨g2, rfl⟩⟩
 by_cases h1 : a < b
 ·have c1 : ((a : Int) < (b : Int)) = True := eq_true (by omega)
  have e : cmpI a b = -1 := if_pos h1
  clear h1
  refine am ?_
  exact ⟨_, rfl⟩
 ·have c1 : ((a : Int) < (b : Int)) = False := eq_false (by omega)
  by_cases h2 : b < a
  ·have c2 : ((b : Int) < (a : Int)) = True := eq_true (by omega)
   have e : cmpI a b = 1 := by unfold cmpI; rw [if_neg h1, if_pos h2]
   clear h1 h2
   refine am ?_
   exact ⟨_, rfl⟩
  ·have c2 : ((b : Int) < (a : Int)) = False := eq_false (by omega)
   have e : cmpI a b = 0 := by unfold cmpI; rw [if_neg h1, if_neg h2]
   clear h1 h2
   refine am ?_
   exact ⟨_, rfl⟩
theorem find_1_spec {m : Mem} {o : ObA} {a : Nat} : C S n_heap_store_find_1 [.agg (obV o), .int .u64 (a : Nat)] m (fun r m' => r = .int .i64 (cmpI o.addr a) ∧ Grow m m') := by
 refine fn rfl ?_
 refine Compare_spec.mono ?_
 rintro _ _ ⟨rfl, ⟨g, rfl⟩⟩
 refine am ?_
 exact ⟨_, rfl⟩
theorem halve {i j : Nat} (h : i + j < 2 ^ 62) : shI .shr .u64 ((i + j : Nat) : Int) 1 = some (.int .u64 (((i + j) / 2 : Nat) : Int)) := by
 have := shrN (w := i + j) (k := 1) (by omega) (by omega)
 rw [Nat.shiftRight_eq_div_pow] at this
 exact this
theorem search_spec {m : Mem} {v : V} {l : List ObA} {a : Nat} (hv : Obs m v l) (hr : rises l) (hl : l.length < 1000000) : C S n_slices_BinarySearchFunc_uint64 [v, .int .u64 (a : Nat), .fn n_heap_store_find_1 [] []] m
  (fun r m' => (∃ i, i ≤ l.length ∧ (∀ p, p < i → (ob l p).addr < a) ∧ (∀ p, i ≤ p → p < l.length → a ≤ (ob l p).addr) ∧ r = .tup [.int .i64 (i : Nat), .bool (decide (i < l.length ∧ (ob l i).addr = a))]) ∧ Grow m m') := by
 have A := hv.ar
 have hr' := PLift.up hr
 clear hr
 refine fn rfl ?_
 let I := fun (d : Nat) (fr : Frame) (M : Mem) => ∃ i j : Nat, i ≤ j ∧ j ≤ l.length ∧ d = j - i ∧ Has fr [(0, v), (1, .int .u64 (a : Nat)), (2, .fn n_heap_store_find_1 [] []), (8, .int .i64 (l.length : Nat)), (9, .int .i64 (i : Nat)), (10, .int .i64 (j : Nat))] ∧ (∃ g, M = m ++ g) ∧ (∀ p, p < i → (ob l p).addr < a) ∧ (∀ p, j ≤ p → p < l.length → a ≤ (ob l p).addr)
 refine W_loop I ?_ l.length ⟨0, l.length, Nat.zero_le _, Nat.le_refl _, rfl, byam, ⟨[], by simp⟩, fun p h => absurd h (Nat.not_lt_zero _), fun p h h2 => absurd h2 (by omega)⟩
 rintro d fr _ ⟨i, j, hij, hj, rfl, F, ⟨g, rfl⟩, h1, h2⟩
 have h1' := PLift.up h1
 have h2' := PLift.up h2
 clear h1 h2
 by_cases h : i < j
 ·have c1 : ((i : Int) < (j : Int)) = True := eq_true (by omega)
  have w1 : IntKind.i64.wrap ((i : Int) + (j : Int)) = ((i + j : Nat) : Int) := by rw [wrap_i64] <;> omega
  have w2 := un' (a := i + j) (by omega)
  have w3 := halve (i := i) (j := j) (by omega)
  have w4 := wn (a := (i + j) / 2) (by omega)
  have hm : (i + j) / 2 < l.length := by omega
  have w5 : IntKind.i64.wrap ((((i + j) / 2 : Nat) : Int) + 1) = (((i + j) / 2 + 1 : Nat) : Int) := by rw [wrap_i64] <;> omega
  refine into ?_
  refine (find_1_spec).mono ?_
  rintro _ _ ⟨rfl, ⟨g2, rfl⟩⟩
  by_cases hlt : (ob l ((i + j) / 2)).addr < a
  ·have e : cmpI (ob l ((i + j) / 2)).addr a = -1 := if_pos hlt
   have hlt' := PLift.up hlt
   clear hlt
   refine am ?_
   refine ⟨_, ?_, (i + j) / 2 + 1, j, by omega, hj, rfl, byam, ⟨_, rfl⟩, fun p hp => ?_, h2'.down⟩
   ·omega
   ·by_cases e : p = (i + j) / 2
    ·rw [e]; exact hlt'.down
    ·exact Nat.lt_trans (hr'.down p _ (by omega) hm) hlt'.down
  ·have e : (cmpI (ob l ((i + j) / 2)).addr a < 0) = False := eq_false (by unfold cmpI; rw [if_neg hlt]; split <;> omega)
   have hlt' := PLift.up hlt
   clear hlt
   refine am ?_
   refine ⟨_, ?_, i, (i + j) / 2, by omega, by omega, rfl, byam, ⟨_, rfl⟩, h1'.down, fun p hp hp2 => ?_⟩
   ·omega
   ·by_cases e : p = (i + j) / 2
    ·have := hlt'.down; rw [e]; omega
    ·have := hlt'.down; have := hr'.down _ p (show (i + j) / 2 < p by omega) hp2; omega
 ·have ei : i = j := by omega
  subst ei
  have c1 : ((i : Int) < (i : Int)) = False := eq_false (by omega)
  by_cases h3 : i < l.length
  ·have c2 : ((i : Int) < (l.length : Int)) = True := eq_true (by omega)
   refine into ?_
   refine (find_1_spec).mono ?_
   rintro _ _ ⟨rfl, ⟨g2, rfl⟩⟩
   refine am ?_
   refine ⟨⟨i, hj, h1'.down, h2'.down, ?_⟩, _, rfl⟩
   have : (cmpI (ob l i).addr a = 0) ↔ (ob l i).addr = a := by unfold cmpI; split <;> (try split) <;> omega
   simp [h3, this]
  ·have c2 : ((i : Int) < (l.length : Int)) = False := eq_false (by omega)
   refine into ?_
   exact ⟨⟨i, hj, h1'.down, h2'.down, by simp [h3]⟩, _, rfl⟩
end Go.AM.G
set_option maxRecDepth 100000
namespace Go.AM.G
open Go Go.AM
theorem ob_get {l : List ObA} {i : Nat} (h : i < l.length) : l[i]? = some (ob l i) := by simp [ob, List.getD_eq_getElem?_getD, h]
theorem ob_of {l : List ObA} {o : ObA} (h : o ∈ l) : ∃ i, i < l.length ∧ ob l i = o := by
 obtain ⟨i, hi, e⟩ := List.getElem_of_mem h
 exact ⟨i, hi, by simp [ob, List.getD_eq_getElem?_getD, hi, e]⟩
theorem fnd_none {l : List ObA} {a : Nat} (h : ∀ p, p < l.length → (ob l p).addr = a → (ob l p).cur = false) : fnd l a = none := by
 unfold fnd
 rw [List.find?_eq_none]
 intro o ho
 obtain ⟨i, hi, rfl⟩ := ob_of ho
 have := h i hi
 simp only [Bool.and_eq_true, beq_iff_eq]
 rintro ⟨h1, h2⟩
 rw [this h1] at h2; cases h2
theorem fnd_some {l : List ObA} {a i : Nat} (h : ∀ p, p < l.length → (ob l p).addr = a → p = i) (hi : i < l.length) (h1 : (ob l i).addr = a) (h2 : (ob l i).cur = true) : fnd l a = some (ob l i) := by
 cases e : fnd l a with
 | none =>
  unfold fnd at e
  rw [List.find?_eq_none] at e
  exact absurd (by simp [h1, h2]) (e _ (List.mem_of_getElem? (ob_get hi)))
 | some o =>
  unfold fnd at e
  obtain ⟨j, hj, rfl⟩ := ob_of (List.mem_of_find?_eq_some e)
  have := List.find?_some e
  simp only [Bool.and_eq_true, beq_iff_eq] at this
  rw [h j hj this.1]
theorem fnd_is {l : List ObA} {a : Nat} {o : ObA} (h : fnd l a = some o) : o.addr = a ∧ o.cur = true ∧ o ∈ l := by
 have h1 := List.find?_some h
 simp only [Bool.and_eq_true, beq_iff_eq] at h1
 exact ⟨h1.1, h1.2, List.mem_of_find?_eq_some h⟩
theorem find_spec {M : Mem} {P a : Nat} {own : Bool} {aw nn uw sv ov : V} {l : List ObA} (hP : M[P]? = some (.cells own [[aw, nn, uw, sv, ov]])) (hv : Obs M ov l) (hr : rises l) (hl : l.length < 1000000) : C S n_heap_store_find [.ptr P 0 0, .int .u64 (a : Nat)] M (fun r m' => r = fndV (fnd l a) ∧ Grow M m') := by
 have A := hv.ar
 have hr' := PLift.up hr
 clear hr
 refine fn rfl ?_
 refine (search_spec (l := l) hv.app hr'.down hl).mono ?_
 rintro _ _ ⟨⟨i, hi, h1, h2, rfl⟩, ⟨g, rfl⟩⟩
 have h1' := PLift.up h1
 have h2' := PLift.up h2
 clear h1 h2
 by_cases h3 : i < l.length ∧ (ob l i).addr = a
 ·have e3 : decide (i < l.length ∧ (ob l i).addr = a) = true := decide_eq_true h3
  rw [e3]
  have hi' := h3.1
  have ha := PLift.up h3.2
  clear h3 e3
  have only : PLift (∀ p, p < l.length → (ob l p).addr = a → p = i) := ⟨fun p hp e => by
   have := ha.down
   rcases Nat.lt_trichotomy p i with h | h | h
   ·have := hr'.down p i h hi'; omega
   ·exact h
   ·have := hr'.down i p h hp; omega⟩
  cases hc : (ob l i).cur with
  | true =>
   rw [fnd_some only.down hi' ha.down hc]
   refine am ?_
   simp only [fndV, obV, hc]
   exact ⟨trivial, _, rfl⟩
  | false =>
   rw [fnd_none (a := a) fun p hp e => by rw [only.down p hp e]; exact hc]
   refine am ?_
   exact ⟨rfl, _, rfl⟩
 ·have e3 : decide (i < l.length ∧ (ob l i).addr = a) = false := decide_eq_false h3
  rw [e3]
  rw [fnd_none (a := a) fun p hp e => by
   have : p ≠ i := fun h => h3 (h ▸ ⟨hp, e⟩)
   rcases Nat.lt_trichotomy p i with h | h | h
   ·have := h1'.down p h; omega
   ·exact absurd h this
   ·have a1 := hr'.down i p h hp
    have := h2'.down i (Nat.le_refl _) (by omega)
    omega]
  clear h3 e3
  refine am ?_
  exact ⟨rfl, _, rfl⟩
theorem ref_find_spec {m : Mem} {v : V} {a : Nat} {l : List ObA} (hv : Obs m v l) (hl : l.length < 1000000) : C S n_ref07_find [v, .int .u64 (a : Nat)] m (fun r m' => r = fndV (fnd l a) ∧ Grow m m') := by
 have A := hv.ar
 refine fn rfl ?_
 refine range (α := Unit) l.length (fun _ => [(1, .int .u64 (a : Nat)), (4, .ptr m.length 0 0), (8, v)]) (fun k _ M => (∃ g, M = m ++ .cells true [zOb] :: g) ∧ (l.take k).find? (fun o => o.addr == a && o.cur) = none) () ⟨⟨[], rfl⟩, rfl⟩ ?_ ?_
 ·rintro k _ fr _ hk F ⟨⟨g, rfl⟩, hn⟩
  have hn' := PLift.up hn
  clear hn
  have et : l.take (k + 1) = l.take k ++ [ob l k] := by rw [List.take_add_one, ob_get hk]; rfl
  have et' := PLift.up et
  clear et
  have no : ∀ {b : Bool}, ((ob l k).addr == a && (ob l k).cur) = b → (b = false → (l.take (k + 1)).find? (fun o => o.addr == a && o.cur) = none) ∧ (b = true → fnd l a = some (ob l k)) := by
   intro b hb
   refine ⟨fun e => ?_, fun e => ?_⟩
   ·rw [et'.down, List.find?_append, hn'.down]
    simp only [List.find?_cons, hb, e, List.find?_nil, Option.none_or]
   ·have h0 : fnd l a = (l.take (k + 1) ++ l.drop (k + 1)).find? fun o => o.addr == a && o.cur := by rw [List.take_append_drop]; rfl
    rw [h0, et'.down, List.find?_append, List.find?_append, hn'.down]
    simp [hb, e]
  have no' := PLift.up @no
  clear no
  by_cases h1 : (ob l k).addr = a
  ·have h1' := PLift.up h1
   clear h1
   cases hc : (ob l k).cur with
   | true =>
    have e := (no'.down (b := true) (by simp [h1'.down, hc])).2 rfl
    rw [e]
    have c1 : (((ob l k).addr : Int) = (a : Int)) = True := eq_true (by rw [h1'.down])
    refine am ?_
    simp only [fndV, obV, hc]
    exact ⟨trivial, _, rfl⟩
   | false =>
    have e := (no'.down (b := false) (by simp [hc])).1 rfl
    have e' := PLift.up e
    clear e
    have c1 : (((ob l k).addr : Int) = (a : Int)) = True := eq_true (by rw [h1'.down])
    refine am ?_
    exact ⟨(), byam, ⟨_, rfl⟩, e'.down⟩
  ·have e := (no'.down (b := false) (by simp [h1])).1 rfl
   have e' := PLift.up e
   clear e
   have c1 : (((ob l k).addr : Int) = (a : Int)) = False := eq_false (by omega)
   refine am ?_
   exact ⟨(), byam, ⟨_, rfl⟩, e'.down⟩
 ·rintro _ fr _ F ⟨⟨g, rfl⟩, hn⟩
  rw [List.take_length] at hn
  rw [show fnd l a = none from hn]
  clear hn
  refine am ?_
  exact ⟨rfl, _, rfl⟩
theorem leads_spec {M : Mem} {P w : Nat} {own : Bool} {aw nn uw sv ov : V} {l : List ObA} (hP : M[P]? = some (.cells own [[aw, nn, uw, sv, ov]])) (hv : Obs M ov l) (hr : rises l) (hl : l.length < 1000000) : C S n_heap_store_leads [.ptr P 0 0, .int .u64 (w : Nat)] M (fun r m' => r = .bool ((fnd l w).isSome || w == 0) ∧ Grow M m') := by
 have hr' := PLift.up hr
 clear hr
 refine fn rfl ?_
 refine (find_spec hP hv hr'.down hl).mono ?_
 rintro _ _ ⟨rfl, ⟨g, rfl⟩⟩
 cases h : fnd l w with
 | some o =>
  have f1 : fndV (some o) = .tup [.agg (obV o), .bool true] := rfl
  have f2 : (some o).isSome = true := rfl
  have f3 : ∀ b, (true || b) = true := Bool.true_or
  refine am ?_
  exact ⟨_, rfl⟩
 | none =>
  have f1 : fndV none = .tup [.agg zOb, .bool false] := rfl
  have f2 : ((none : Option ObA).isSome || w == 0) = decide ((w : Int) = 0) := by
   by_cases h : w = 0 <;> simp [h]
  refine am ?_
  exact ⟨_, rfl⟩
theorem CV_mono {v : V} {args : List V} {m : Mem} {P P' : V → Mem → Prop} (h : CV S v args m P) (hm : ∀ r m', P r m' → P' r m') : CV S v args m P' := by
 cases v with
 | fn g first cap => exact C.mono h hm
 | _ => exact h
theorem refs_spec {m : Mem} {P : Nat} {each : V} {o : ObA} {T : Nat → Mem → Prop} {R : Mem → Prop} {na : Nat} {a : Nat → Nat}
  (ho : o.addr + 1 + o.n ≤ na) (hna : na < 1000000) (hn48 : o.n ≤ 48) (hu : unM o.w < 18446744073709551616) (he : each.isCell = true)
  (q0 : T 0 (m ++ [.cells true [obV o]]))
  (hQ : ∀ f M, T f M → M[m.length]? = some (.cells true [obV o]) ∧ (∃ own aw nn uw sv ov, M[P]? = some (.cells own [[aw, nn, uw, sv, ov]]) ∧ Rd M aw 1 na (u64s a)))
  (hG : ∀ f M g, T f M → T f (M ++ g))
  (skip : ∀ f M, f < o.n → (unM o.w).testBit f = false → T f M → T (f + 1) M)
  (step : ∀ f M, f < o.n → (unM o.w).testBit f = true → T f M → CV S each [.int .u64 (a (o.addr + 1 + f) : Nat)] M (fun r M' => (r = .bool true ∧ T (f + 1) M') ∨ (r = .bool false ∧ R M'))) :
  C S n_heap_store_refs [.ptr P 0 0, .agg (obV o), each] m (fun r M' => (r = .bool true ∧ T o.n M') ∨ (r = .bool false ∧ R M')) := by
 have hQ' := PLift.up hQ
 have hG' := PLift.up hG
 have skip' := PLift.up skip
 have step' := PLift.up step
 have q0' := PLift.up q0
 have ho' : o.addr + 1 + o.w % 256 ≤ na := ho
 have hn' : o.w % 256 ≤ 48 := hn48
 clear hQ hG skip step q0
 refine fn rfl ?_
 refine range (α := Unit) (o.w % 256) (fun _ => [(0, .ptr P 0 0), (2, each), (4, .ptr m.length 0 0)]) (fun k _ M => T k M) () q0'.down ?_ ?_
 ·rintro k _ fr M hk F hq
  obtain ⟨h1, own, aw, nn, uw, sv, ov, h2, h3⟩ := hQ'.down k M hq
  have A := h3.ar
  have hq' := PLift.up hq
  have w1 : IntKind.u64.wrap ((o.addr : Int) + 1) = ((o.addr + 1 : Nat) : Int) := by rw [wrap_u64] <;> omega
  have w2 := un' (a := k) (by omega)
  have w3 : IntKind.u64.wrap (((o.addr + 1 : Nat) : Int) + (k : Int)) = ((o.addr + 1 + k : Nat) : Int) := by rw [wrap_u64] <;> omega
  have hlt : o.addr + 1 + k < na := by omega
  clear hq
  refine am ?_
  refine (head_Is_spec (f := k) hu (by omega)).mono ?_
  rintro _ _ ⟨rfl, ⟨g, rfl⟩⟩
  cases hb : (unM o.w).testBit k with
  | false =>
   refine am ?_
   exact ⟨(), byam, skip'.down k _ hk hb (hG'.down k M g hq'.down)⟩
  | true =>
   have hb' := PLift.up hb
   clear hb
   refine am ?_
   refine CV_mono (step'.down k _ hk hb'.down (hG'.down k M g hq'.down)) ?_
   rintro r M' hr
   have hr' := PLift.up hr
   clear hr
   rcases hr'.down with ⟨rfl, h⟩ | ⟨rfl, h⟩
   ·have h' := PLift.up h
    clear h hr'
    refine am ?_
    exact ⟨(), byam, h'.down⟩
   ·have h' := PLift.up h
    clear h hr'
    refine am ?_
    exact .inr h'.down
 ·rintro _ fr M F hq
  have hq' := PLift.up hq
  clear hq
  refine am ?_
  exact .inl hq'.down
end Go.AM.G
set_option maxRecDepth 100000
namespace Go.AM.G
open Go Go.AM
structure Wide (H : HeapA) (l : List ObA) (b : Nat) : Prop where
 a : ∀ p q, p < q → q < l.length → (ob l p).addr + (ob l p).n + 1 ≤ (ob l q).addr
 b : ∀ p, p < l.length → (ob l p).addr + (ob l p).n + 1 ≤ b
 c : ∀ p, p < l.length → 16 ≤ (ob l p).addr ∧ unOk (ob l p).w ∧ (ob l p).w = H.a (ob l p).addr ∧ (ob l p).w < 18446744073709551616
theorem ob_app1 {l k : List ObA} {p : Nat} (h : p < l.length) : ob (l ++ k) p = ob l p := by
 unfold ob
 rw [List.getD_eq_getElem?_getD, List.getElem?_append_left h, List.getD_eq_getElem?_getD]
theorem ob_last {l : List ObA} {o : ObA} : ob (l ++ [o]) l.length = o := by simp [ob, List.getD_eq_getElem?_getD]
theorem Wide.nil {H : HeapA} {b : Nat} : Wide H [] b := ⟨fun _ _ _ h => absurd h (Nat.not_lt_zero _), fun _ h => absurd h (Nat.not_lt_zero _), fun _ h => absurd h (Nat.not_lt_zero _)⟩
theorem Wide.to {H : HeapA} {l : List ObA} {b b' : Nat} (h : Wide H l b) (hb : b ≤ b') : Wide H l b' := ⟨h.a, fun p hp => Nat.le_trans (h.b p hp) hb, h.c⟩
theorem Wide.push {H : HeapA} {l : List ObA} {o : ObA} {b b' : Nat} (h : Wide H l b) (h1 : b ≤ o.addr) (h2 : o.addr + o.n + 1 ≤ b') (h3 : 16 ≤ o.addr ∧ unOk o.w ∧ o.w = H.a o.addr ∧ o.w < 18446744073709551616) : Wide H (l ++ [o]) b' := by
 refine ⟨fun p q hp hq => ?_, fun p hp => ?_, fun p hp => ?_⟩
 ·simp only [List.length_append, List.length_singleton] at hq
  rw [ob_app1 (show p < l.length by omega)]
  by_cases e : q = l.length
  ·subst e
   rw [ob_last]
   have := h.b p hp; omega
  ·rw [ob_app1 (show q < l.length by omega)]
   exact h.a p q hp (by omega)
 ·simp only [List.length_append, List.length_singleton] at hp
  by_cases e : p = l.length
  ·subst e; rw [ob_last]; exact h2
  ·rw [ob_app1 (show p < l.length by omega)]
   have := h.b p (by omega); omega
 ·simp only [List.length_append, List.length_singleton] at hp
  by_cases e : p = l.length
  ·subst e; rw [ob_last]; exact h3
  ·rw [ob_app1 (show p < l.length by omega)]
   exact h.c p (by omega)
theorem Wide.rises {H : HeapA} {l : List ObA} {b : Nat} (h : Wide H l b) : rises l := fun p q hp hq => by have := h.a p q hp hq; omega
theorem siz_ge {n : Nat} (h : siz n ≠ 0) : n ≤ siz n := by
 unfold siz at h ⊢
 repeat' split
 all_goals first | omega | (exfalso; apply h; repeat' rw [if_neg (by omega)])
theorem HeapA.framed.ends {H : HeapA} (h : H.framed) : ∀ i j, j < i → i < H.ns → (H.sp j).first + (H.sp j).pages ≤ (H.sp i).first
 | 0, j, hj, _ => absurd hj (Nat.not_lt_zero _)
 | i + 1, j, hj, hi => by
  have h1 := (h.2.2.1.2 (i + 1) hi).2 (Nat.succ_pos _)
  simp only [Nat.add_sub_cancel] at h1
  by_cases e : j = i
  ·subst e; exact h1
  ·have h2 := HeapA.framed.ends h i j (by omega) (by omega)
   obtain ⟨f, p, s, n, F⟩ := h.at (i := i) (by omega)
   have := F.p1; have := F.hp
   omega
theorem SpF.room {H : HeapA} {i f p s n k w : Nat} (F : SpF H i f p s n) (hk : k < n) (hw : fitsI (H.sp i) w) : 16 * f + k * s + (w % 256 + 1) ≤ 16 * (f + p) ∧ (2 ≤ s → 16 * f + k * s + (w % 256 + 1) ≤ 16 * f + (k + 1) * s) := by
 have h1 := hw.1; have h2 := hw.2
 rw [F.hs] at h1
 rw [F.hp] at h2
 have h1 : siz (w % 256 + 1) = s := by omega
 have h2 : npg (w % 256 + 1) = p := by omega
 have h3 := F.slot hk
 rcases F.sh with ⟨e1, e2⟩ | ⟨e1, e2, e3⟩
 ·subst e1
  refine ⟨?_, fun h => by omega⟩
  unfold npg at h2
  omega
 ·have := siz_ge (n := w % 256 + 1) (by omega)
  have e : (k + 1) * s = k * s + s := Nat.succ_mul k s
  omega
theorem obs_wide {H : HeapA} (h : H.framed) (wa : w64 H.na H.a) : ∀ i k, i < H.ns → k ≤ nsl (H.sp i) → lookTo H i k → ∃ b, Wide H (obs H i ++ obsIn H i k) b ∧ ∀ f p s n, SpF H i f p s n → (b ≤ 16 * f + k * s ∨ (1 ≤ k ∧ b ≤ 16 * (f + p) ∧ s = 0)) ∧ b ≤ 16 * (f + p)
 | 0, 0, hi, hk, ht => ⟨0, Wide.nil, fun f p s n F => ⟨.inl (Nat.zero_le _), Nat.zero_le _⟩⟩
 | i + 1, 0, hi, hk, ht => by
  obtain ⟨f, p, s, n, F⟩ := h.at (i := i) (by omega)
  obtain ⟨b, hb, hB⟩ := obs_wide h wa i (nsl (H.sp i)) (by omega) (Nat.le_refl _) ⟨fun j hj => ht.1 j (by omega), fun l hl => ht.1 i (by omega) l hl⟩
  have h1 := (hB f p s n F).2
  have h2 := h.ends (i + 1) i (by omega) hi
  rw [F.hf, F.hp] at h2
  refine ⟨b, ?_, fun f' p' s' n' F' => ?_⟩
  ·show Wide H ((obs H i ++ obsIn H i (nsl (H.sp i))) ++ []) b
   rw [List.append_nil]; exact hb
  ·rw [F'.hf] at h2
   have := F'.p1
   omega
 | i, k + 1, hi, hk, ht => by
  obtain ⟨f, p, s, n, F⟩ := h.at (i := i) hi
  obtain ⟨b, hb, hB⟩ := obs_wide h wa i k hi (by omega) ⟨ht.1, fun l hl => ht.2 l (by omega)⟩
  have hkn : k < n := by have := F.nsl; omega
  have hn := F.nsl
  obtain ⟨h1, h2⟩ := hB f p s n F
  have h1' : b ≤ 16 * f + k * s := by
   rcases h1 with h1 | ⟨e1, e2, e3⟩
   ·exact h1
   ·rcases F.sh with ⟨_, e4⟩ | ⟨e4, _⟩ <;> omega
  by_cases hbit : bit (H.sp i).al.w k = true
  ·have hs := ht.2 k (Nat.lt_succ_self k) hbit
   rw [F.adr] at hs
   have hr := F.room hkn hs.2
   have hlt := F.lt hkn
   have e : obs H i ++ obsIn H i (k + 1) = (obs H i ++ obsIn H i k) ++ [obAt H i k] := by
    rw [show obsIn H i (k + 1) = obsIn H i k ++ [obAt H i k] from if_pos hbit, List.append_assoc]
   rw [e]
   have ea : (obAt H i k).addr = 16 * f + k * s := F.adr
   have ew : (obAt H i k).w = H.a (16 * f + k * s) := by show H.a (adr (H.sp i) k) = _; rw [F.adr]
   have en : (obAt H i k).n = H.a (16 * f + k * s) % 256 := by show (obAt H i k).w % 256 = _; rw [ew]
   refine ⟨16 * f + k * s + (H.a (16 * f + k * s) % 256 + 1), hb.push (by rw [ea]; exact h1') (by rw [ea, en]; omega) ⟨by rw [ea]; have := F.f1; omega, by rw [ew]; exact hs.1, by rw [ew, ea], by rw [ew]; exact wa _ hlt⟩, fun f' p' s' n' F' => ?_⟩
   have a1 := F'.hf; have a2 := F'.hp; have a3 := F'.hs
   rw [F.hf] at a1; rw [F.hp] at a2; rw [F.hs] at a3
   have a1 : f = f' := by omega
   have a2 : p = p' := by omega
   have a3 : s = s' := by omega
   subst a1; subst a2; subst a3
   refine ⟨?_, by omega⟩
   rcases F.sh with ⟨e1, e2⟩ | ⟨e1, e2, e3⟩
   ·exact .inr ⟨by omega, by omega, e1⟩
   ·exact .inl (by have := hr.2 e1; omega)
  ·have e : obsIn H i (k + 1) = obsIn H i k := if_neg hbit
   rw [e]
   refine ⟨b, hb, fun f' p' s' n' F' => ?_⟩
   have a1 := F'.hf; have a2 := F'.hp; have a3 := F'.hs
   rw [F.hf] at a1; rw [F.hp] at a2; rw [F.hs] at a3
   have a1 : f = f' := by omega
   have a2 : p = p' := by omega
   have a3 : s = s' := by omega
   subst a1; subst a2; subst a3
   have : (k + 1) * s = k * s + s := Nat.succ_mul k s
   omega
theorem HeapA.lookOk.wide {H : HeapA} (h : H.framed) (wa : w64 H.na H.a) (hl : H.lookOk) : Wide H (obs H H.ns) H.na := by
 by_cases h0 : H.ns = 0
 ·rw [h0]; exact Wide.nil
 ·obtain ⟨k, hk⟩ : ∃ k, H.ns = k + 1 := ⟨H.ns - 1, by omega⟩
  obtain ⟨f, p, s, n, F⟩ := h.at (i := k) (by omega)
  obtain ⟨b, hb, hB⟩ := obs_wide h wa k (nsl (H.sp k)) (by omega) (Nat.le_refl _) ⟨fun j hj => hl.1 j (by omega), fun l hl' => hl.1 k (by omega) l hl'⟩
  rw [hk]
  have := (hB f p s n F).2
  have := F.fp
  exact Wide.to hb (by omega)
end Go.AM.G
