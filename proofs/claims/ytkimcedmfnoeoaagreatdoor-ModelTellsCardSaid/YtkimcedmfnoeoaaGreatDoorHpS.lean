/- Is nothing where nobody is, and do references lead to objects: of the program. -/
import Derived.Test.YtkimcedmfnoeoaaGreatDoorHpP
set_option linter.unusedVariables false
set_option linter.unusedSimpArgs false
set_option maxRecDepth 100000
namespace Go.AM.G
open Go Go.AM
def leadsOk (l : List ObA) (w : Nat) : Prop := w = 0 ∨ (fnd l w).isSome = true
def refsOk (a : Nat → Nat) (l : List ObA) (o : ObA) : Prop := ∀ f, f < o.n → (unM o.w).testBit f = true → leadsOk l (a (o.addr + 1 + f))
theorem unM_lt {w : Nat} : unM w < 18446744073709551616 := by unfold unM; omega
theorem refs_leads_spec {m : Mem} {P na : Nat} {a : Nat → Nat} {own : Bool} {aw nn uw sv ov : V} {l : List ObA} {o : ObA} (hP : m[P]? = some (.cells own [[aw, nn, uw, sv, ov]])) (hv : Obs m ov l) (hr : rises l) (hl : l.length < 1000000)
  (ha : Rd m aw 1 na (u64s a)) (hna : na < 1000000) (ho : o.addr + 1 + o.n ≤ na) (hn : o.n ≤ 48) :
  C S n_heap_store_refs [.ptr P 0 0, .agg (obV o), .fn n_heap_store_leads [.ptr P 0 0] []] m (fun r m' => okB (refsOk a l o) r ∧ Grow m m') := by
 refine (refs_spec (T := fun f M => (∃ g, M = m ++ .cells true [obV o] :: g) ∧ ∀ f', f' < f → (unM o.w).testBit f' = true → leadsOk l (a (o.addr + 1 + f'))) (R := fun M => ¬ refsOk a l o ∧ Grow m M) (a := a) (na := na) ho hna hn unM_lt rfl ⟨⟨[], rfl⟩, fun _ h => absurd h (Nat.not_lt_zero _)⟩ ?_ ?_ ?_ ?_).mono ?_
 ·rintro f _ ⟨⟨g, rfl⟩, _⟩
  exact ⟨by simp, own, aw, nn, uw, sv, ov, getElem?_grow hP, ha.app⟩
 ·rintro f _ g2 ⟨⟨g, rfl⟩, h⟩
  exact ⟨⟨g ++ g2, by simp⟩, h⟩
 ·rintro f M hf hb ⟨h1, h2⟩
  refine ⟨h1, fun f' hf' hb' => ?_⟩
  by_cases e : f' = f
  ·subst e; rw [hb] at hb'; cases hb'
  ·exact h2 f' (by omega) hb'
 ·rintro f _ hf hb ⟨⟨g, rfl⟩, h2⟩
  show C S n_heap_store_leads _ _ _
  refine (leads_spec (own := own) (aw := aw) (nn := nn) (uw := uw) (sv := sv) (ov := ov) (l := l) (getElem?_grow hP) hv.app hr hl).mono ?_
  rintro _ _ ⟨rfl, ⟨g2, rfl⟩⟩
  have e : ((fnd l (a (o.addr + 1 + f))).isSome || a (o.addr + 1 + f) == 0) = true ↔ leadsOk l (a (o.addr + 1 + f)) := by
   unfold leadsOk
   rw [Bool.or_eq_true, beq_iff_eq]
   exact Or.comm
  cases h3 : ((fnd l (a (o.addr + 1 + f))).isSome || a (o.addr + 1 + f) == 0) with
  | true =>
   refine .inl ⟨rfl, ⟨_, by rw [List.append_assoc, List.cons_append]⟩, fun f' hf' hb' => ?_⟩
   by_cases e2 : f' = f
   ·subst e2; exact e.1 h3
   ·exact h2 f' (by omega) hb'
  | false => exact .inr ⟨rfl, fun h => (by have := e.2 (h f hf hb); rw [h3] at this; cases this), (Grow.refl _).app.app⟩
 ·rintro r M (⟨rfl, ⟨g, rfl⟩, h⟩ | ⟨rfl, h⟩)
  ·exact ⟨.inl ⟨h, rfl⟩, (Grow.refl _).app⟩
  ·exact ⟨.inr ⟨h.1, rfl⟩, h.2⟩
theorem Rd.cut {m : Mem} {v : V} {z n lo hi : Nat} {f : Nat → List V} (h : Rd m v z n f) (hc : capOk v) (h0 : 0 < n) (h1 : lo ≤ hi) (h2 : hi ≤ n) : ∃ v', (∀ k1 k2 : IntKind, sliceV v (some (.int k1 (lo : Int))) (some (.int k2 (hi : Int))) none = some v') ∧ Rd m v' z (hi - lo) (fun i => f (lo + i)) := by
 rcases h with h | ⟨rfl, _⟩
 case inr => omega
 obtain ⟨b, j, len, cap, ex, own, els, rfl, hb, hl, hj⟩ := h.get0 (i := 0) (by simpa using h0)
 have hc' : len ≤ cap := hc
 rw [List.length_map, List.length_range] at hl
 refine ⟨.slice b (j + lo) (hi - lo) (cap - lo) (ex || false) z, fun k1 k2 => ?_, .inl ⟨?_, by simp [zOk]⟩⟩
 ·simp [sliceV, bound, show hi ≤ cap by omega, h1]
 ·have he := h.1
  simp only [elems, hb] at he ⊢
  rw [if_pos (by omega)] at he
  rw [if_pos (by omega)]
  injection he with he
  congr 1
  have : (List.drop (j + lo) els).take (hi - lo) = (((List.drop j els).take len).drop lo).take (hi - lo) := by
   rw [List.drop_take, List.take_take, List.drop_drop, Nat.min_eq_left (by omega)]
  rw [this, he]
  apply List.ext_getElem?
  intro i
  simp only [List.getElem?_take, List.getElem?_drop, List.getElem?_map, List.getElem?_range]
  by_cases hi' : i < hi - lo
  ·simp [hi', show lo + i < n by omega]
  ·simp [hi']
theorem sound_1_1_spec {m : Mem} {w : Nat} : C S n_heap_store_sound_1_1 [.int .u64 (w : Nat)] m (fun r m' => r = .bool (decide (¬ w = 0)) ∧ Grow m m') := by
 have G := Grow.refl m
 have e : decide (¬ w = 0) = decide (¬ (w : Int) = 0) := decide_eq_decide.2 (by omega)
 rw [e]
 refine fn rfl ?_
 trivial
theorem Index_spec {m : Mem} {v : V} {n : Nat} {a : Nat → Nat} (hv : Rd m v 1 n (u64s a)) (hn : n < 1000000) : C S n_slices_IndexFunc_uint64 [v, .fn n_heap_store_sound_1_1 [] []] m (fun r m' => ((∃ k : Nat, r = .int .i64 (k : Nat) ∧ ∃ i, i < n ∧ a i ≠ 0) ∨ (r = .int .i64 (-1) ∧ ∀ i, i < n → a i = 0)) ∧ Grow m m') := by
 have A := hv.ar
 refine fn rfl ?_
 refine range (α := Unit) n (fun _ => [(0, v), (1, .fn n_heap_store_sound_1_1 [] [])]) (fun k _ M => (∃ g, M = m ++ g) ∧ ∀ i, i < k → a i = 0) () ⟨⟨[], by simp⟩, fun _ h => absurd h (Nat.not_lt_zero _)⟩ ?_ ?_
 ·rintro k _ fr _ hk F ⟨⟨g, rfl⟩, hz⟩
  have hz' := PLift.up hz
  clear hz
  refine am ?_
  refine sound_1_1_spec.mono ?_
  rintro _ _ ⟨rfl, ⟨g2, rfl⟩⟩
  by_cases h : a k = 0
  ·have h' := PLift.up h
   have e : decide (¬ a k = 0) = false := decide_eq_false (by simp [h])
   rw [e]
   clear h e
   refine am ?_
   refine ⟨(), byam, ⟨_, rfl⟩, fun i hi => ?_⟩
   by_cases e : i = k
   ·exact e ▸ h'.down
   ·exact hz'.down i (by omega)
  ·have h' := PLift.up h
   have e : decide (¬ a k = 0) = true := decide_eq_true h
   rw [e]
   clear h e
   refine am ?_
   exact ⟨.inl ⟨k, rfl, k, hk, h'.down⟩, _, rfl⟩
 ·rintro _ fr _ F ⟨⟨g, rfl⟩, hz⟩
  have hz' := PLift.up hz
  clear hz
  refine am ?_
  exact ⟨.inr hz'.down, _, rfl⟩
theorem Contains_spec {m : Mem} {v : V} {n : Nat} {a : Nat → Nat} (hv : Rd m v 1 n (u64s a)) (hn : n < 1000000) : C S n_slices_ContainsFunc_uint64 [v, .fn n_heap_store_sound_1_1 [] []] m (fun r m' => okB (∃ i, i < n ∧ a i ≠ 0) r ∧ Grow m m') := by
 have A := hv.ar
 refine fn rfl ?_
 refine (Index_spec hv hn).mono ?_
 rintro _ _ ⟨⟨k, rfl, h⟩ | ⟨rfl, h⟩, ⟨g, rfl⟩⟩
 ·have h' := PLift.up h
  have c : ((k : Int) < 0) = False := eq_false (by omega)
  have c2 : ((0 : Int) ≤ (k : Int)) = True := eq_true (by omega)
  clear h
  refine am ?_
  exact ⟨.inl ⟨h'.down, rfl⟩, _, rfl⟩
 ·have h' := PLift.up h
  clear h
  refine am ?_
  exact ⟨.inr ⟨fun ⟨i, hi, e⟩ => e (h'.down i hi), rfl⟩, _, rfl⟩
theorem sound_1_spec {m : Mem} {c1 c2 P na at' upto : Nat} {a : Nat → Nat} {o1 o2 o3 : Bool} {aw nn uw sv ov : V} (h1 : m[c1]? = some (.cells o1 [[.ptr P 0 0]])) (h2 : m[c2]? = some (.cells o2 [[.int .u64 (at' : Nat)]])) (hP : m[P]? = some (.cells o3 [[aw, nn, uw, sv, ov]]))
  (ha : Rd m aw 1 na (u64s a)) (hc : capOk aw) (hna : na < 1000000) (hna0 : 0 < na) (hle : at' ≤ upto) (hu : upto ≤ na) :
  C S n_heap_store_sound_1 [.int .u64 (upto : Nat), .ptr c1 0 0, .ptr c2 0 0] m (fun r m' => okB (∀ i, at' ≤ i → i < upto → a i = 0) r ∧ Grow m m') := by
 have A := ha.ar
 obtain ⟨v', hs, hR⟩ := Rd.cut ha hc hna0 hle hu
 have omn : ∀ f : Arg → V, Option.map f none = none := fun _ => rfl
 refine fn rfl ?_
 refine (Contains_spec (a := fun i => a (at' + i)) hR (by omega)).mono ?_
 rintro _ _ ⟨⟨h, rfl⟩ | ⟨h, rfl⟩, ⟨g, rfl⟩⟩
 ·have h' := PLift.up h
  clear h
  refine am ?_
  obtain ⟨i, hi, e⟩ := h'.down
  exact ⟨.inr ⟨fun k => e (k (at' + i) (by omega) (by omega)), rfl⟩, _, rfl⟩
 ·have h' := PLift.up h
  clear h
  refine am ?_
  refine ⟨.inl ⟨fun i h1 h2 => ?_, rfl⟩, _, rfl⟩
  by_cases e : a i = 0
  ·exact e
  ·exact absurd ⟨i - at', by omega, by rw [Nat.add_sub_cancel' h1]; exact e⟩ h'.down
end Go.AM.G
set_option maxRecDepth 100000
namespace Go.AM.G
open Go Go.AM
def covers (l : List ObA) (k i : Nat) : Prop := ∃ p, p < k ∧ (ob l p).addr ≤ i ∧ i ≤ (ob l p).addr + (ob l p).n
def HeapA.soundOk (H : HeapA) : Prop := (∀ p, p < (obs H H.ns).length → (ob (obs H H.ns) p).cur = true → refsOk H.a (obs H H.ns) (ob (obs H H.ns) p)) ∧ ∀ i, i < H.na → ¬ covers (obs H H.ns) (obs H H.ns).length i → H.a i = 0
def endOf (l : List ObA) (k : Nat) : Nat := if k = 0 then 0 else (ob l (k - 1)).addr + 1 + (ob l (k - 1)).n
theorem Wide.end_le {H : HeapA} {l : List ObA} {b k : Nat} (h : Wide H l b) (hk : k < l.length) : endOf l k ≤ (ob l k).addr := by
 unfold endOf
 split
 ·exact Nat.zero_le _
 ·have := h.a (k - 1) k (by omega) hk; omega
theorem Wide.end_b {H : HeapA} {l : List ObA} {b k : Nat} (h : Wide H l b) (hk : k ≤ l.length) : endOf l k ≤ b := by
 unfold endOf
 split
 ·exact Nat.zero_le _
 ·have := h.b (k - 1) (by omega); omega
theorem Wide.gap {H : HeapA} {l : List ObA} {b k i : Nat} (h : Wide H l b) (h1 : endOf l k ≤ i) (h2 : k < l.length → i < (ob l k).addr) (hk : k ≤ l.length) : ¬ covers l l.length i := by
 rintro ⟨p, hp, e1, e2⟩
 by_cases hpk : p < k
 ·have : (ob l p).addr + 1 + (ob l p).n ≤ endOf l k := by
   unfold endOf
   rw [if_neg (by omega)]
   by_cases e : p = k - 1
   ·subst e; exact Nat.le_refl _
   ·have := h.a p (k - 1) (by omega) (by omega); omega
  omega
 ·have := h2 (by omega)
  by_cases e : p = k
  ·subst e; omega
  ·have := h.a k p (by omega) hp; omega
theorem sound_spec {m : Mem} {P : Nat} {own : Bool} {aw nn uw sv ov : V} {H : HeapA} (hP : m[P]? = some (.cells own [[aw, nn, uw, sv, ov]])) (hv : Obs m ov (obs H H.ns)) (hl : (obs H H.ns).length < 1000000)
  (ha : Rd m aw 1 H.na (u64s H.a)) (hc : capOk aw) (hna : H.na < 1000000) (hna0 : 0 < H.na) (hw : Wide H (obs H H.ns) H.na) :
  C S n_heap_store_sound [.ptr P 0 0] m (fun r m' => okB H.soundOk r ∧ Grow m m') := by
 obtain ⟨Z, hZ⟩ : ∃ Z, Z = H.soundOk := ⟨_, rfl⟩
 rw [← hZ]
 unfold HeapA.soundOk at hZ
 obtain ⟨l, el⟩ : ∃ l, obs H H.ns = l := ⟨_, rfl⟩
 rw [el] at hv hl hw hZ
 have hw' := PLift.up hw
 have hZ' := PLift.up hZ
 have A := ha.ar
 have B := hv.ar
 clear hZ hw el
 refine fn rfl ?_
 refine range (α := Unit) l.length (fun _ => [(1, .ptr m.length 0 0), (3, .ptr (m.length + 1) 0 0), (4, .fn n_heap_store_sound_1 [] [.ptr m.length 0 0, .ptr (m.length + 1) 0 0]), (11, ov)])
  (fun k _ M => (∃ g, M = m ++ .cells true [[.ptr P 0 0]] :: .cells true [[.int .u64 (endOf l k : Nat)]] :: g) ∧ (∀ i, i < endOf l k → ¬ covers l l.length i → H.a i = 0) ∧ ∀ p, p < k → (ob l p).cur = true → refsOk H.a l (ob l p)) () ⟨⟨[], rfl⟩, fun _ h => absurd h (Nat.not_lt_zero _), fun _ h => absurd h (Nat.not_lt_zero _)⟩ ?_ ?_
 ·rintro k _ fr _ hk F ⟨⟨g, rfl⟩, hz, hrf⟩
  have hz' := PLift.up hz
  have hrf' := PLift.up hrf
  have hb := hw'.down.b k hk
  have hcc := hw'.down.c k hk
  have hn48 : (ob l k).w % 256 ≤ 48 := hcc.2.1.2.1
  have hb' : (ob l k).addr + (ob l k).w % 256 + 1 ≤ H.na := hb
  have w1 : IntKind.u64.wrap (((ob l k).addr : Int) + 1) = (((ob l k).addr + 1 : Nat) : Int) := by rw [wrap_u64] <;> omega
  have w2 := un' (a := (ob l k).w % 256) (by omega)
  have w3 : IntKind.u64.wrap ((((ob l k).addr + 1 : Nat) : Int) + (((ob l k).w % 256 : Nat) : Int)) = (((ob l k).addr + 1 + (ob l k).w % 256 : Nat) : Int) := by rw [wrap_u64] <;> omega
  have he : endOf l (k + 1) = (ob l k).addr + 1 + (ob l k).w % 256 := by unfold endOf; rw [if_neg (by omega)]; rfl
  have he' := PLift.up he
  clear hz hrf hb hcc he
  refine am ?_
  refine (sound_1_spec (at' := endOf l k) (P := P) (a := H.a) (na := H.na) (aw := aw) (nn := nn) (uw := uw) (sv := sv) (ov := ov) (o1 := true) (o2 := true) (o3 := own) byam byam byam ha.app hc hna hna0 (hw'.down.end_le hk) (by omega)).mono ?_
  rintro _ _ ⟨⟨h, rfl⟩ | ⟨h, rfl⟩, ⟨g2, rfl⟩⟩
  case inr =>
   have h' := PLift.up h
   clear h
   refine am ?_
   refine ⟨.inr ⟨fun e => h'.down fun i h1 h2 => ?_, rfl⟩, _, rfl⟩
   rw [hZ'.down] at e
   exact e.2 i (by omega) (hw'.down.gap h1 (fun _ => h2) (by omega))
  have h' := PLift.up h
  clear h
  have hz2 : PLift (∀ i, i < (ob l k).addr + 1 + (ob l k).w % 256 → ¬ covers l l.length i → H.a i = 0) := ⟨fun i hi hno => by
   by_cases h1 : i < endOf l k
   ·exact hz'.down i h1 hno
   ·by_cases h2 : i < (ob l k).addr
    ·exact h'.down i (by omega) h2
    ·exact absurd ⟨k, hk, by omega, show i ≤ (ob l k).addr + (ob l k).w % 256 by omega⟩ hno⟩
  cases hcu : (ob l k).cur with
  | false =>
   refine am ?_
   refine ⟨(), byam, ⟨_, by rw [he'.down]⟩, by rw [he'.down]; exact hz2.down, fun p hp hc => ?_⟩
   by_cases e : p = k
   ·subst e; rw [hcu] at hc; cases hc
   ·exact hrf'.down p (by omega) hc
  | true =>
   have hcu' := PLift.up hcu
   have eo : obV (ob l k) = [.int .i64 (ob l k).sp, .int .i64 (ob l k).slot, .int .u64 (ob l k).addr, .int .i64 ((ob l k).w % 256 : Nat), .int .u64 (unM (ob l k).w : Nat), .bool true] := by rw [← hcu]
   have eo' := PLift.up eo
   clear eo
   refine am ?_
   rw [← eo'.down]
   refine (refs_leads_spec (P := P) (own := own) (aw := aw) (nn := nn) (uw := uw) (sv := sv) (ov := ov) (l := l) (a := H.a) (na := H.na) byam hv.app hw'.down.rises hl ha.app hna (show (ob l k).addr + 1 + (ob l k).w % 256 ≤ H.na by omega) hn48).mono ?_
   rintro _ _ ⟨⟨h, rfl⟩ | ⟨h, rfl⟩, ⟨g3, rfl⟩⟩
   case inr =>
    have h' := PLift.up h
    clear h
    refine am ?_
    refine ⟨.inr ⟨fun e => h'.down ?_, rfl⟩, _, rfl⟩
    rw [hZ'.down] at e
    exact e.1 k hk hcu'.down
   have h' := PLift.up h
   clear h
   refine am ?_
   refine ⟨(), byam, ⟨_, by rw [he'.down]⟩, by rw [he'.down]; exact hz2.down, fun p hp hc => ?_⟩
   by_cases e : p = k
   ·subst e; exact h'.down
   ·exact hrf'.down p (by omega) hc
 ·rintro _ fr _ F ⟨⟨g, rfl⟩, hz, hrf⟩
  have hz' := PLift.up hz
  have hrf' := PLift.up hrf
  have w1 := un' (a := H.na) (by omega)
  clear hz hrf
  refine am ?_
  refine (sound_1_spec (at' := endOf l l.length) (P := P) (a := H.a) (na := H.na) (aw := aw) (nn := nn) (uw := uw) (sv := sv) (ov := ov) (o1 := true) (o2 := true) (o3 := own) byam byam byam ha.app hc hna hna0 (hw'.down.end_b (Nat.le_refl _)) (Nat.le_refl _)).mono ?_
  rintro _ _ ⟨⟨h, rfl⟩ | ⟨h, rfl⟩, ⟨g2, rfl⟩⟩
  ·have h' := PLift.up h
   clear h
   refine am ?_
   refine ⟨.inl ⟨?_, rfl⟩, _, rfl⟩
   rw [hZ'.down]
   refine ⟨hrf'.down, fun i hi hno => ?_⟩
   by_cases h1 : i < endOf l l.length
   ·exact hz'.down i h1 hno
   ·exact h'.down i (by omega) hi
  ·have h' := PLift.up h
   clear h
   refine am ?_
   refine ⟨.inr ⟨fun e => h'.down fun i h1 h2 => ?_, rfl⟩, _, rfl⟩
   rw [hZ'.down] at e
   exact e.2 i h2 (hw'.down.gap h1 (fun h => absurd h (Nat.lt_irrefl _)) (Nat.le_refl _))
end Go.AM.G
set_option maxRecDepth 100000
namespace Go.AM.G
open Go Go.AM
def HeapA.right (H : HeapA) : Prop := H.framed ∧ H.lookOk ∧ H.soundOk
theorem HeapA.framed.na {H : HeapA} (h : H.framed) : 0 < H.na ∧ H.na ≤ 16384 := by
 obtain ⟨h1, h2, h3, h4, h5, h6, h7⟩ := h
 omega
theorem obs_small {H : HeapA} (h : H.framed) : (obs H H.ns).length ≤ 2048 := by
 have := obs_len h H.ns (Nat.le_refl _)
 have := h.2.2.1.1
 omega
theorem open_spec {m : Mem} {aw uw sv : V} {va vm : Nat → V} {H : HeapA} (h : HpRd m aw uw sv va vm H) : C S n_heap_open [.agg (heapV H aw uw sv)] m
  (fun r m' => (H.right ∧ r = .tup [.ptr (m.length + 1) 0 0, .int .i64 0] ∧ ∃ g ov, m' = m ++ .cells true [heapV H aw uw sv] :: .cells true [[aw, .int .i64 H.us.N, uw, sv, ov]] :: g ∧ Gw (m.length + 2) g ov 6 ((obs H H.ns).map obV)) ∨ (¬ H.right ∧ r = .tup [.nilp, .int .i64 2] ∧ Grow m m')) := by
 have A := h.a.ar
 have B := h.u.ar
 have D := h.s.s.ar
 refine fn rfl ?_
 refine (framed_spec (P := m.length + 1) (own := true) (aw := aw) (uw := uw) (sv := sv) (ov := .nils) h.app byam).mono ?_
 rintro _ _ ⟨⟨hf, rfl⟩ | ⟨hf, rfl⟩, ⟨g1, rfl⟩⟩
 case inr =>
  have hf' := PLift.up hf
  clear hf
  refine am ?_
  exact .inr ⟨fun e => hf'.down e.1, _, rfl⟩
 have hf' := PLift.up hf
 clear hf
 have hL : HpRd (m ++ [.cells true [heapV H aw uw sv]]) aw uw sv va vm H := h.app
 have R := look_spec (L := m ++ [.cells true [heapV H aw uw sv]]) (G0 := g1) hL hf'.down
 simp only [List.append_assoc, List.cons_append, List.nil_append, List.length_append, List.length_cons, List.length_nil, Nat.zero_add] at R
 have R' := PLift.up R
 clear R
 refine am ?_
 refine R'.down.mono ?_
 rintro _ _ ⟨ov, g2, rfl, ⟨hk, rfl, hG⟩ | ⟨hk, rfl⟩⟩
 case inr =>
  have hk' := PLift.up hk
  clear hk
  refine am ?_
  exact .inr ⟨fun e => hk'.down e.2.1, _, rfl⟩
 have hk' := PLift.up hk
 have hG' := PLift.up hG
 clear hk hG
 have oc := hG'.down.cell
 have hO : Obs (m ++ .cells true [heapV H aw uw sv] :: .cells true [[aw, .int .i64 H.us.N, uw, sv, ov]] :: (g1 ++ g2)) ov (obs H H.ns) := by
  have := Gw.obs (G := []) (A := m ++ .cells true [heapV H aw uw sv] :: .cells true [[aw, .int .i64 H.us.N, uw, sv, ov]] :: g1) hG'.down.cast
  simpa only [List.append_assoc, List.cons_append, List.nil_append, List.append_nil] using this
 have hna := hf'.down.na
 have hol := obs_small hf'.down
 refine am ?_
 refine (sound_spec (P := m.length + 1) (own := true) (aw := aw) (nn := .int .i64 H.us.N) (uw := uw) (sv := sv) (ov := ov) (H := H) byam hO (by omega) h.a.app h.ca (by omega) (by omega) (hk'.down.wide hf'.down h.wa)).mono ?_
 rintro _ _ ⟨⟨hs, rfl⟩ | ⟨hs, rfl⟩, ⟨g3, rfl⟩⟩
 case inr =>
  have hs' := PLift.up hs
  clear hs
  refine am ?_
  exact .inr ⟨fun e => hs'.down e.2.2, _, rfl⟩
 have hs' := PLift.up hs
 clear hs
 refine am ?_
 refine .inl ⟨⟨hf'.down, hk'.down, hs'.down⟩, _, ov, rfl, ?_⟩
 exact Gw.pre g1 (hG'.down.app (G := g3)).cast
end Go.AM.G
