/- Is a heap right: of the document. -/
import Derived.Test.YtkimcedmfnoeoaaGreatDoorHpS
set_option linter.unusedVariables false
set_option linter.unusedSimpArgs false
set_option maxRecDepth 100000
namespace Go.AM.G
open Go Go.AM
def bs (n : Nat) (t : Nat → Bool) : List (List V) := (List.range n).map fun i => [.bool (t i)]
theorem bs_len {n : Nat} {t : Nat → Bool} : (bs n t).length = n := by simp [bs]
theorem bs_get {n i : Nat} {t : Nat → Bool} (h : i < n) : (bs n t)[i]? = some [.bool (t i)] := by simp [bs, h]
theorem bs_set {n i : Nat} {t : Nat → Bool} {b : Bool} : (bs n t).set i [.bool b] = bs n (up t i b) := by
 apply List.ext_getElem?
 intro j
 by_cases hj : j < n
 ·by_cases e : i = j
  ·subst e
   rw [List.getElem?_set_self (by rw [bs_len]; exact hj), bs_get hj, up_self]
  ·rw [List.getElem?_set_ne e, bs_get hj, bs_get hj, up_ne (Ne.symm e)]
 ·rw [List.getElem?_eq_none (by simp [bs_len]; omega), List.getElem?_eq_none (by rw [bs_len]; omega)]
theorem bs_load {n i : Nat} {t : Nat → Bool} (h : i < n) : loadB (some (.cells true (bs n t))) none i 0 = some (.bool (t i)) := by
 rw [loadB_mk, bs_get h]; rfl
theorem bs_store {n i : Nat} {t : Nat → Bool} {b : Bool} (h : i < n) : storeB (some (.cells true (bs n t))) 1 i 0 (.bool b) = some (.cells true (bs n (up t i b))) := by
 unfold storeB
 simp only [bs_get h]
 rw [if_pos ⟨rfl, Nat.le_refl _, rfl⟩, ← bs_set]
 rfl
theorem bs_index {n i b : Nat} (ki : IntKind) (h : i < n) : asIndex 1 (.slice b 0 n n true 1) (.int ki (i : Int)) = some (.ptr b i 0) := by
 unfold asIndex
 simp [h]
theorem bs_zero {n : Nat} : List.replicate n [V.bool false] = bs n fun _ => false := by simp [bs, List.map_const']
theorem ref_Check_spec {m : Mem} {aw uw sv : V} {va vm : Nat → V} {H : HeapA} (h : HpRd m aw uw sv va vm H) : C S n_ref07_Check [.agg (heapV H aw uw sv)] m (fun r m' => okE H.right r ∧ Grow m m') := by
 have A := h.a.ar
 have B := h.u.ar
 have D := h.s.s.ar
 obtain ⟨Z, hZ⟩ : ∃ Z, Z = H.right := ⟨_, rfl⟩
 rw [← hZ]
 unfold HeapA.right at hZ
 have hZ' := PLift.up hZ
 clear hZ
 refine fn rfl ?_
 refine (ref_framed_spec h.app).mono ?_
 rintro _ _ ⟨⟨hf, rfl⟩ | ⟨hf, rfl⟩, ⟨g1, rfl⟩⟩
 case inr =>
  have hf' := PLift.up hf
  clear hf
  refine am ?_
  exact ⟨.inr ⟨fun e => hf'.down (hZ'.down ▸ e).1, rfl⟩, _, rfl⟩
 have hf' := PLift.up hf
 have hna := hf.na
 have hol := obs_small hf
 clear hf
 refine am ?_
 refine (all_spec h.app hf'.down).mono ?_
 rintro _ _ ⟨ov, g2, rfl, ⟨hk, rfl, hG⟩ | ⟨hk, rfl⟩⟩
 case inr =>
  have hk' := PLift.up hk
  clear hk
  refine am ?_
  exact ⟨.inr ⟨fun e => hk'.down (hZ'.down ▸ e).2.1, rfl⟩, _, rfl⟩
 obtain ⟨l, el⟩ : ∃ l, obs H H.ns = l := ⟨_, rfl⟩
 have hw := PLift.up (hk.wide hf'.down h.wa)
 have hS : PLift (H.soundOk → (∀ p, p < l.length → (ob l p).cur = true → refsOk H.a l (ob l p)) ∧ ∀ i, i < H.na → ¬ covers l l.length i → H.a i = 0) := ⟨fun e => by
  unfold HeapA.soundOk at e; rw [el] at e; exact e⟩
 have hS2 : PLift (((∀ p, p < l.length → (ob l p).cur = true → refsOk H.a l (ob l p)) ∧ ∀ i, i < H.na → ¬ covers l l.length i → H.a i = 0) → Z) := ⟨fun e => by
  rw [hZ'.down]; refine ⟨hf'.down, hk, ?_⟩; unfold HeapA.soundOk; rw [el]; exact e⟩
 have hS3 : PLift (Z → H.soundOk) := ⟨fun e => by rw [hZ'.down] at e; exact e.2.2⟩
 rw [el] at hw hG hol
 have hk' := PLift.up hk
 have oc := hG.cell
 have hO : ∀ X, Obs (m ++ .cells true [heapV H aw uw sv] :: (g1 ++ (g2 ++ X))) ov l := fun X => by
  have := Gw.obs (G := X) (A := m ++ .cells true [heapV H aw uw sv] :: g1) hG.cast
  simpa only [List.append_assoc, List.cons_append, List.nil_append, List.append_nil] using this
 have hO' := PLift.up hO
 obtain ⟨b1, b2, b3, b4, _⟩ := (hO []).ar
 have b5 : ∀ X (i o : Nat) (k : Option Nat), i < l.length → loadV (m ++ .cells true [heapV H aw uw sv] :: (g1 ++ (g2 ++ X))) k (atp ov i o) = part (obV (ob l i)) o k := fun X i o k hi => (hO X).ar.2.2.2.2 i o k hi
 clear hk hG el hO hZ'
 have z1 : ((0 : Int) ≤ (H.na : Int)) = True := eq_true (by omega)
 have z2 : ((H.na : Int) ≤ (H.na : Int)) = True := eq_true (by omega)
 have rm : roomy H.na 1 = true := by simp [roomy]; omega
 have e0 := @bs_zero H.na
 have i1 := @bs_load H.na
 have i2 := @bs_store H.na
 have i3 := @bs_index H.na
 refine am ?_
 refine range (α := Nat → Bool) l.length (fun _ => [(1, .ptr m.length 0 0), (3, ov), (5, .slice (m.length + (g1.length + g2.length + 1)) 0 H.na H.na true 1), (30, ov)])
  (fun k th M => (∃ g, M = m ++ .cells true [heapV H aw uw sv] :: (g1 ++ (g2 ++ .cells true (bs H.na th) :: g))) ∧ (∀ i, i < H.na → (th i = true ↔ covers l k i)) ∧ ∀ p, p < k → (ob l p).cur = true → refsOk H.a l (ob l p)) (fun _ => false)
  ⟨⟨[], rfl⟩, fun i _ => ⟨fun e => (by cases e), fun ⟨p, hp, _⟩ => absurd hp (Nat.not_lt_zero _)⟩, fun _ h => absurd h (Nat.not_lt_zero _)⟩ ?_ ?_
 ·rintro k th fr _ hk F ⟨⟨g, rfl⟩, ht, hrf⟩
  have ht' := PLift.up ht
  have hrf' := PLift.up hrf
  have hb0 := hw.down.b k hk
  have hc0 := hw.down.c k hk
  obtain ⟨o, eo⟩ : ∃ o, ob l k = o := ⟨_, rfl⟩
  rw [eo] at hb0 hc0
  have eo' := PLift.up eo
  have hn48 : o.w % 256 ≤ 48 := hc0.2.1.2.1
  have hb : o.addr + o.w % 256 + 1 ≤ H.na := hb0
  clear ht hrf hb0 hc0
  refine am ?_
  let I := fun (d : Nat) (fr : Frame) (M : Mem) => ∃ (j : Nat) (th' : Nat → Bool), j ≤ o.w % 256 + 1 ∧ d = o.w % 256 + 1 - j ∧ Has fr [(1, .ptr m.length 0 0), (3, ov), (5, .slice (m.length + (g1.length + g2.length + 1)) 0 H.na H.na true 1), (30, ov), (31, .int .i64 (l.length : Nat)), (32, .int .i64 (k : Nat)), (7, .ptr (m.length + (g1.length + (g2.length + (g.length + 1)) + 1)) 0 0), (8, .int .i64 (j : Nat))] ∧ M = m ++ .cells true [heapV H aw uw sv] :: (g1 ++ (g2 ++ .cells true (bs H.na th') :: (g ++ [.cells true [obV o]]))) ∧ ∀ i, i < H.na → (th' i = true ↔ covers l k i ∨ (o.addr ≤ i ∧ i < o.addr + j))
  refine W_loop I ?_ (o.w % 256 + 1) ⟨0, th, Nat.zero_le _, rfl, byam, rfl, fun i hi => by rw [ht'.down i hi]; exact ⟨.inl, fun h => h.resolve_right (by omega)⟩⟩
  rintro d fr _ ⟨j, th', hj, rfl, F, rfl, ht⟩
  have htt := PLift.up ht
  clear ht
  by_cases hjn : j ≤ o.w % 256
  ·have c1 : ((j : Int) ≤ ((o.w % 256 : Nat) : Int)) = True := eq_true (by omega)
   have w1 := un' (a := j) (by omega)
   have w2 : IntKind.u64.wrap ((o.addr : Int) + (j : Int)) = ((o.addr + j : Nat) : Int) := by rw [wrap_u64] <;> omega
   have w3 : IntKind.i64.wrap ((j : Int) + 1) = ((j + 1 : Nat) : Int) := by rw [wrap_i64] <;> omega
   have lt : o.addr + j < H.na := by omega
   refine into ?_
   refine ⟨_, ?_, j + 1, up th' (o.addr + j) true, by omega, rfl, byam, rfl, fun i hi => ?_⟩
   ·omega
   ·by_cases e : i = o.addr + j
    ·subst e
     rw [up_self]
     exact ⟨fun _ => .inr (by omega), fun _ => rfl⟩
    ·rw [up_ne e, htt.down i hi]
     constructor
     ·rintro (h | h)
      ·exact .inl h
      ·exact .inr (by omega)
     ·rintro (h | h)
      ·exact .inl h
      ·exact .inr (by omega)
  ·have c1 : ((j : Int) ≤ ((o.w % 256 : Nat) : Int)) = False := eq_false (by omega)
   have htk : PLift (∀ i, i < H.na → (th' i = true ↔ covers l (k + 1) i)) := ⟨fun i hi => by
    rw [htt.down i hi]
    constructor
    ·rintro (⟨p, hp, h⟩ | h)
     ·exact ⟨p, by omega, h⟩
     ·exact ⟨k, by omega, by rw [eo'.down]; exact ⟨h.1, show i ≤ o.addr + o.w % 256 by omega⟩⟩
    ·rintro ⟨p, hp, h⟩
     by_cases e : p = k
     ·subst e
      rw [eo'.down] at h
      have h2 : i ≤ o.addr + o.w % 256 := h.2
      exact .inr ⟨h.1, by omega⟩
     ·exact .inl ⟨p, by omega, h⟩⟩
   clear htt
   refine into ?_
   let I2 := fun (d : Nat) (fr : Frame) (M : Mem) => ∃ (f : Nat) (g' : Mem), f ≤ o.w % 256 ∧ d = o.w % 256 - f ∧ Has fr [(1, .ptr m.length 0 0), (3, ov), (5, .slice (m.length + (g1.length + g2.length + 1)) 0 H.na H.na true 1), (30, ov), (31, .int .i64 (l.length : Nat)), (32, .int .i64 (k : Nat)), (7, .ptr (m.length + (g1.length + (g2.length + (g.length + 1)) + 1)) 0 0), (9, .int .i64 (f : Nat))] ∧ M = m ++ .cells true [heapV H aw uw sv] :: (g1 ++ (g2 ++ .cells true (bs H.na th') :: (g ++ .cells true [obV o] :: g'))) ∧ ∀ f', f' < f → o.cur = true → (unM o.w).testBit f' = true → leadsOk l (H.a (o.addr + 1 + f'))
   refine W_loop I2 ?_ (o.w % 256) ⟨0, [], Nat.zero_le _, rfl, byam, rfl, fun _ h => absurd h (Nat.not_lt_zero _)⟩
   rintro d fr _ ⟨f, g', hfn, rfl, F, rfl, hfr⟩
   have hfr' := PLift.up hfr
   clear hfr
   by_cases hf : f < o.w % 256
   ·have c2 : ((f : Int) < ((o.w % 256 : Nat) : Int)) = True := eq_true (by omega)
    have w1 : IntKind.u64.wrap ((o.addr : Int) + 1) = ((o.addr + 1 : Nat) : Int) := by rw [wrap_u64] <;> omega
    have w2 := un' (a := f) (by omega)
    have w3 : IntKind.u64.wrap (((o.addr + 1 : Nat) : Int) + (f : Int)) = ((o.addr + 1 + f : Nat) : Int) := by rw [wrap_u64] <;> omega
    have w4 : IntKind.i64.wrap ((f : Int) + 1) = ((f + 1 : Nat) : Int) := by rw [wrap_i64] <;> omega
    have lt : o.addr + 1 + f < H.na := by omega
    have wlt := PLift.up (h.wa _ lt)
    have step : PLift ((o.cur = true → (unM o.w).testBit f = true → leadsOk l (H.a (o.addr + 1 + f))) → ∀ f', f' < f + 1 → o.cur = true → (unM o.w).testBit f' = true → leadsOk l (H.a (o.addr + 1 + f'))) := ⟨fun hs f' hf' hc hb => by
     by_cases e : f' = f
     ·subst e; exact hs hc hb
     ·exact hfr'.down f' (by omega) hc hb⟩
    cases hcu : o.cur with
    | false =>
     refine into ?_
     refine into ?_
     refine ⟨_, ?_, f + 1, g', by omega, rfl, byam, rfl, step.down fun e => by rw [hcu] at e; cases e⟩
     omega
    | true =>
    refine into ?_
    refine (ref06_Is_spec (f := f) unM_lt (by omega)).mono ?_
    rintro _ _ ⟨rfl, ⟨g3, rfl⟩⟩
    cases hbt : (unM o.w).testBit f with
    | false =>
     refine am ?_
     refine into ?_
     refine ⟨_, ?_, f + 1, g' ++ g3, by omega, rfl, byam, rfl, step.down fun _ e => by rw [hbt] at e; cases e⟩
     omega
    | true =>
    by_cases hw0 : H.a (o.addr + 1 + f) = 0
    ·have hw0' := PLift.up hw0
     have c3 : ((H.a (o.addr + 1 + f) : Int) = 0) = True := eq_true (by omega)
     clear hw0
     refine am ?_
     refine into ?_
     refine ⟨_, ?_, f + 1, g' ++ g3, by omega, rfl, byam, rfl, step.down fun _ _ => .inl hw0'.down⟩
     omega
    have hw0' := PLift.up hw0
    have c3 : ((H.a (o.addr + 1 + f) : Int) = 0) = False := eq_false (by omega)
    clear hw0
    refine am ?_
    refine (ref_find_spec (l := l) (hO'.down _) (by omega)).mono ?_
    rintro _ _ ⟨rfl, ⟨g4, rfl⟩⟩
    cases hfd : fnd l (H.a (o.addr + 1 + f)) with
    | some y =>
     have f1 : fndV (some y) = .tup [.agg (obV y), .bool true] := rfl
     have hfd' := PLift.up hfd
     clear hfd
     refine am ?_
     refine into ?_
     refine ⟨_, ?_, f + 1, _, by omega, rfl, byam, rfl, step.down fun _ _ => .inr (by rw [hfd'.down]; rfl)⟩
     omega
    | none =>
     have f1 : fndV none = .tup [.agg zOb, .bool false] := rfl
     have hfd' := PLift.up hfd
     clear hfd
     refine am ?_
     refine ⟨.inr ⟨fun e => ?_, rfl⟩, _, rfl⟩
     have := (hS.down (hS3.down e)).1 k hk (by rw [eo'.down]; exact hcu)
     rw [eo'.down] at this
     rcases this f hf hbt with h | h
     ·exact hw0'.down h
     ·rw [hfd'.down] at h; cases h
   ·have ef : f = o.w % 256 := by omega
    have ef' := PLift.up ef
    have c2 : ((f : Int) < ((o.w % 256 : Nat) : Int)) = False := eq_false (by omega)
    clear ef
    refine into ?_
    refine ⟨th', byam, ⟨_, rfl⟩, htk.down, fun p hp hc => ?_⟩
    by_cases e : p = k
    ·subst e
     rw [eo'.down] at hc ⊢
     exact fun f' hf' hb' => hfr'.down f' (by rw [ef'.down]; exact hf') hc hb'
    ·exact hrf'.down p (by omega) hc
 ·rintro th fr _ F ⟨⟨g, rfl⟩, ht, hrf⟩
  have ht' := PLift.up ht
  have hrf' := PLift.up hrf
  clear ht hrf
  refine am ?_
  refine range (α := Unit) H.na (fun _ => [(5, .slice (m.length + (g1.length + g2.length + 1)) 0 H.na H.na true 1), (93, aw)])
   (fun i _ M => M = m ++ .cells true [heapV H aw uw sv] :: (g1 ++ (g2 ++ .cells true (bs H.na th) :: g)) ∧ ∀ j, j < i → ¬ covers l l.length j → H.a j = 0) () ⟨rfl, fun _ h => absurd h (Nat.not_lt_zero _)⟩ ?_ ?_
  ·rintro i _ fr _ hi F ⟨rfl, hz⟩
   have hz' := PLift.up hz
   clear hz
   cases hth : th i with
   | true =>
    refine am ?_
    refine ⟨(), byam, rfl, fun j hj hno => ?_⟩
    by_cases e : j = i
    ·subst e; exact absurd ((ht'.down j hi).1 hth) hno
    ·exact hz'.down j (by omega) hno
   | false =>
    by_cases hw0 : H.a i = 0
    ·have hw0' := PLift.up hw0
     have c3 : ((H.a i : Int) = 0) = True := eq_true (by omega)
     clear hw0
     refine am ?_
     refine ⟨(), byam, rfl, fun j hj hno => ?_⟩
     by_cases e : j = i
     ·subst e; exact hw0'.down
     ·exact hz'.down j (by omega) hno
    ·have hw0' := PLift.up hw0
     have c3 : ((H.a i : Int) = 0) = False := eq_false (by omega)
     clear hw0
     refine am ?_
     refine ⟨.inr ⟨fun e => hw0'.down ((hS.down (hS3.down e)).2 i hi fun hc => ?_), rfl⟩, _, rfl⟩
     have := (ht'.down i hi).2 hc
     rw [hth] at this; cases this
  ·rintro _ fr _ F ⟨rfl, hz⟩
   have hz' := PLift.up hz
   clear hz
   refine am ?_
   exact ⟨.inl ⟨hS2.down ⟨hrf'.down, hz'.down⟩, rfl⟩, _, rfl⟩
end Go.AM.G
set_option maxRecDepth 100000
namespace Go.AM.G
open Go Go.AM
end Go.AM.G
