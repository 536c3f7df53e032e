/- Do arena, pages and spans go together: of the program. -/
import Derived.Test.YtkimcedmfnoeoaaGreatDoorHpH
import Derived.Test.YtkimcedmfnoeoaaGreatDoorAmRead
set_option linter.unusedVariables false
set_option linter.unusedSimpArgs false
set_option maxRecDepth 100000
namespace Go.AM.G
open Go Go.AM
structure HeapA where
 na : Nat
 a : Nat → Nat
 us : BitsA
 ns : Nat
 sp : Nat → SpanA
structure HpRd (m : Mem) (aw uw sv : V) (va vm : Nat → V) (H : HeapA) : Prop where
 a : Rd m aw 1 H.na (u64s H.a)
 u : Rd m uw 1 H.us.n (u64s H.us.w)
 s : SpsRd m sv H.ns H.sp va vm
 wa : w64 H.na H.a
 wu : w64 H.us.n H.us.w
 la : H.na < 17592186044417
 lu : H.us.n < 17592186044417
 ls : H.ns < 17592186044417
 ca : capOk aw
theorem HpRd.app {m g : Mem} {aw uw sv : V} {va vm : Nat → V} {H : HeapA} (h : HpRd m aw uw sv va vm H) : HpRd (m ++ g) aw uw sv va vm H := ⟨h.a.app, h.u.app, h.s.app, h.wa, h.wu, h.la, h.lu, h.ls, h.ca⟩
abbrev heapV (H : HeapA) (aw uw sv : V) : List V := [aw, .int .i64 H.us.N, uw, sv]
def inSpan (sp : Nat → SpanA) (k i : Nat) : Prop := ∃ j, j < k ∧ (sp j).first ≤ (i : Int) ∧ (i : Int) < (sp j).first + (sp j).pages
def HeapA.framed (H : HeapA) : Prop := H.na ≤ 16384 ∧ H.us.ok ∧ spansOk H.ns H.sp ∧ 1 ≤ H.us.N ∧ (H.na : Int) = H.us.N * 16 ∧ (∀ k, k < H.ns → 1 ≤ (H.sp k).first ∧ (H.sp k).first + (H.sp k).pages ≤ H.us.N) ∧ ∀ i : Nat, (i : Int) < H.us.N → (bit H.us.w i = true ↔ i = 0 ∨ inSpan H.sp H.ns i)
theorem ok_setb {N : Int} {n i : Nat} {w : Nat → Nat} {b : Bool} (h : bitsOk N n w) (hw : w64 n w) (hi : (i : Int) < N) : bitsOk N n (setb w i b) := by
 obtain ⟨h1, h2, h3, h4⟩ := h
 refine ⟨h1, h2, h3, fun k hk hk2 => ?_⟩
 rw [bit_setb hw (by omega), if_neg (by omega)]
 exact h4 k hk hk2
theorem ok_fillb {N : Int} {n i : Nat} {w : Nat → Nat} (h : bitsOk N n w) (hw : w64 n w) : ∀ k, ((i + k : Nat) : Int) ≤ N → bitsOk N n (fillb w i k)
 | 0, _ => h
 | k + 1, hi => ok_setb (ok_fillb h hw k (by omega)) (w64_fillb hw k) (by omega)
theorem ok_zero (N : Nat) (h : N ≤ 4096) : bitsOk N ((N + 63) / 64) (fun _ => 0) := ⟨by omega, by omega, by omega, fun i _ _ => by simp [bit]⟩
theorem words_bits {n : Nat} {a b : Nat → Nat} (ha : w64 n a) (hb : w64 n b) : (∀ i, i < n → a i = b i) ↔ ∀ i, i < 64 * n → bit a i = bit b i := by
 constructor
 ·intro h i hi
  unfold bit
  rw [h (i / 64) (by omega)]
 ·intro h j hj
  apply Nat.eq_of_testBit_eq
  intro k
  by_cases hk : k < 64
  ·have := h (64 * j + k) (by omega)
   unfold bit at this
   rwa [show (64 * j + k) / 64 = j by omega, show (64 * j + k) % 64 = k by omega] at this
  ·have z : ∀ {x : Nat}, x < 18446744073709551616 → x.testBit k = false := fun h => Nat.testBit_lt_two_pow (Nat.lt_of_lt_of_le h (by exact Nat.pow_le_pow_right (n := 2) (by decide) (show 64 ≤ k by omega)))
   rw [z (ha j hj), z (hb j hj)]
structure Want (H : HeapA) (k : Nat) (w : Nat → Nat) : Prop where
 ww : w64 H.us.n w
 ok : bitsOk H.us.N H.us.n w
 b : ∀ i : Nat, (i : Int) < H.us.N → (bit w i = true ↔ i = 0 ∨ inSpan H.sp k i)
 s : ∀ j, j < k → 1 ≤ (H.sp j).first ∧ (H.sp j).first + (H.sp j).pages ≤ H.us.N
theorem Want.next {H : HeapA} {k : Nat} {w : Nat → Nat} {f p : Nat} (h : Want H k w) (hf : (H.sp k).first = f) (hp : (H.sp k).pages = p) (h1 : 1 ≤ f) (h2 : ((f + p : Nat) : Int) ≤ H.us.N) : Want H (k + 1) (fillb w f p) := by
 obtain ⟨a1, a2, a3, a4⟩ := h.ok
 refine ⟨w64_fillb h.ww p, ok_fillb h.ok h.ww p h2, fun i hi => ?_, fun j hj => ?_⟩
 ·rw [bit_fillb h.ww p (by omega), Bool.or_eq_true, decide_eq_true_eq, h.b i hi]
  constructor
  ·rintro (e | e | ⟨j, e1, e2, e3⟩)
   ·exact .inr ⟨k, by omega, by omega, by omega⟩
   ·exact .inl e
   ·exact .inr ⟨j, by omega, e2, e3⟩
  ·rintro (e | ⟨j, e1, e2, e3⟩)
   ·exact .inr (.inl e)
   ·by_cases e : j = k
    ·subst e; exact .inl ⟨by omega, by omega⟩
    ·exact .inr (.inr ⟨j, by omega, e2, e3⟩)
 ·by_cases e : j = k
  ·subst e; omega
  ·exact h.s j (by omega)
theorem framed_spec {m : Mem} {P : Nat} {own : Bool} {aw uw sv ov : V} {va vm : Nat → V} {H : HeapA} (h : HpRd m aw uw sv va vm H) (hP : m[P]? = some (.cells own [[aw, .int .i64 H.us.N, uw, sv, ov]])) : C S n_heap_store_framed [.ptr P 0 0] m (fun r m' => okB H.framed r ∧ Grow m m') := by
 have A := h.a.ar
 have B := h.u.ar
 have D := h.s.s.ar
 refine fn rfl ?_
 refine (arena_Check_spec h.a).mono ?_
 rintro r _ ⟨hr, ⟨g1, rfl⟩⟩
 rcases hr with ⟨hr, rfl⟩ | ⟨hr, rfl⟩
 case inr =>
  have h' := PLift.up hr
  clear hr
  refine am ?_
  exact ⟨.inr ⟨fun e => h'.down e.1, rfl⟩, _, rfl⟩
 have k1 := PLift.up hr
 clear hr
 refine am ?_
 refine (pages_Check_spec h.u.app h.wu h.lu).mono ?_
 rintro r _ ⟨hr, ⟨g2, rfl⟩⟩
 rcases hr with ⟨hr, rfl⟩ | ⟨hr, rfl⟩
 case inr =>
  have h' := PLift.up hr
  clear hr
  refine am ?_
  exact ⟨.inr ⟨fun e => h'.down e.2.1, rfl⟩, _, rfl⟩
 have k2 := PLift.up hr
 clear hr
 refine am ?_
 refine (spans_Check_spec h.s.app h.ls).mono ?_
 rintro r _ ⟨hr, ⟨g3, rfl⟩⟩
 rcases hr with ⟨hr, rfl⟩ | ⟨hr, rfl⟩
 case inr =>
  have h' := PLift.up hr
  clear hr
  refine am ?_
  exact ⟨.inr ⟨fun e => h'.down e.2.2.1, rfl⟩, _, rfl⟩
 have k3 := PLift.up hr
 clear hr
 by_cases h1 : H.us.N < 1
 ·refine am ?_
  exact ⟨.inr ⟨fun e => by have := e.2.2.2.1; omega, rfl⟩, _, rfl⟩
 have k2' := k2.down
 obtain ⟨N, hN⟩ : ∃ N : Nat, H.us.N = N := ⟨H.us.N.toNat, by have := k2'.1; omega⟩
 have hN4 : N ≤ 4096 := by have := k2'.2.1; omega
 have hun : H.us.n = (N + 63) / 64 := by have := k2'.2.2.1; omega
 clear k2'
 have w1 : IntKind.i64.wrap ((N : Int) * 16) = (N : Int) * 16 := by rw [wrap_i64] <;> omega
 have hun' := PLift.up hun
 have h1' := PLift.up h1
 have cN : ((N : Int) < 1) = False := eq_false (by omega)
 clear hun h1
 by_cases h2 : (H.na : Int) = (N : Int) * 16
 case neg =>
  have h2' := PLift.up h2
  refine am ?_
  exact ⟨.inr ⟨fun e => h2'.down (by have := e.2.2.2.2.1; rw [hN] at this; exact this), rfl⟩, _, rfl⟩
 have k5 := PLift.up h2
 clear h2
 have c5 : ((H.na : Int) = (N : Int) * 16) = True := eq_true k5.down
 refine am ?_
 refine (Make_spec hN4).mono ?_
 rintro _ _ ⟨g4, v1, rfl, rfl, hv1⟩
 have c1 := hv1.cell
 refine am ?_
 have R := hv1.rd (G := [.cells true [[.int .i64 N, v1]]])
 simp only [List.append_assoc, List.cons_append, List.nil_append] at R
 refine (Put_spec (i := 0) (b := true) (w := fun _ => 0) (n := (N + 63) / 64) (N := (N : Nat)) R (fun i _ => Nat.zero_lt_succ _) (ok_zero N hN4) (by show (0 : Int) < N; have := h1'.down; omega)).mono ?_
 rintro _ _ ⟨g5, v2, rfl, rfl, hv2⟩
 have c2 := hv2.cell
 clear R
 refine am ?_
 have hun := hun'.down
 have hW1 : Want H 0 (setb (fun _ => 0) 0 true) := by
  have z : w64 ((N + 63) / 64) (fun _ => 0) := fun i _ => Nat.zero_lt_succ _
  have hN1 : 1 ≤ N := by have := h1'.down; omega
  refine ⟨hun ▸ w64_setb z, by rw [hN, hun]; exact ok_setb (ok_zero N hN4) z (by omega), fun i hi => ?_, fun j hj => absurd hj (Nat.not_lt_zero _)⟩
  rw [bit_setb z (by omega)]
  by_cases e : i = 0
  ·subst e; simp
  ·rw [if_neg e]
   have : bit (fun _ => 0) i = false := by simp [bit]
   rw [this]
   exact ⟨fun h => by (cases h), fun h => by rcases h with h | ⟨j, h, _⟩; exact absurd h e; omega⟩
 have hW1' := PLift.up hW1
 clear hun hW1
 have hls := h.ls
 refine range (α := V × (Nat → Nat)) H.ns (fun _ => [(0, .ptr P 0 0), (3, .ptr (m.length + (g1.length + (g2.length + g3.length))) 0 0), (4, .ptr (m.length + (g1.length + (g2.length + (g3.length + (g4.length + 1))))) 0 0), (71, sv)])
  (fun k x M => (∃ g, M = m ++ (g1 ++ (g2 ++ (g3 ++ .cells true [[.int .i64 N, uw]] :: (g4 ++ .cells true [[.int .i64 N, x.1]] :: g)))) ∧ Iu (m.length + (g1.length + (g2.length + (g3.length + (g4.length + 1)))) + 1) g x.1 ((N + 63) / 64) x.2) ∧ Want H k x.2) (v2, setb (fun _ => 0) 0 true) ⟨⟨g5, rfl, hv2.cast⟩, hW1'.down⟩ ?_ ?_
 ·rintro k ⟨v, w⟩ fr _ hk F ⟨⟨g, rfl, hv⟩, hW⟩
  dsimp only at hv hW
  have hok := (k3.down.2 k hk).1
  obtain ⟨f, hf⟩ : ∃ f : Nat, (H.sp k).first = f := ⟨(H.sp k).first.toNat, by have := hok.2.1; omega⟩
  have hpg : 1 ≤ (H.sp k).pages ∧ (H.sp k).pages ≤ 4 := by rcases hok.1 with h | h <;> omega
  obtain ⟨p, hp⟩ : ∃ p : Nat, (H.sp k).pages = p := ⟨(H.sp k).pages.toNat, by omega⟩
  have hfp : f + p ≤ 1024 := by have := hok.2.2.1; omega
  have hp4 : p ≤ 4 := by omega
  clear hok hpg
  have hW' := PLift.up hW
  clear hW
  have e := h.s.e k hk
  have A1 := e.a.ar
  have A2 := e.k.ar
  have c := hv.cell
  refine am ?_
  have hc : Iu (m ++ (g1 ++ (g2 ++ (g3 ++ Blk.cells true [[.int .i64 N, uw]] :: (g4 ++ [Blk.cells true [[.int .i64 N, v]]]))))).length g v ((N + 63) / 64) w := hv.cast
  have R := hc.rd (G := [.cells true [spanV (H.sp k) (va k) (vm k)]])
  simp only [List.append_assoc, List.cons_append, List.nil_append] at R
  have hww := hW'.down.ww
  have hwk := hW'.down.ok
  rw [hun'.down] at hww hwk
  rw [hN] at hwk
  simp only [spanV, hf, hp] at R
  refine (Fill_spec (i := f) (k := p) R hww hwk (by omega) (by omega)).mono ?_
  rintro r _ ⟨g6, v', rfl, c', hr⟩
  clear R hww hwk hc
  rcases hr with ⟨h2, rfl, hv'⟩ | ⟨h2, rfl⟩
  case inr =>
   have h2' := PLift.up h2
   clear h2
   refine am ?_
   exact ⟨.inr ⟨fun e => by have := (e.2.2.2.2.2.1 k hk).2; have := h2'.down; omega, rfl⟩, _, rfl⟩
  by_cases h3 : f < 1
  ·have c3 : ((f : Int) < 1) = True := eq_true (by omega)
   have h3' := PLift.up h3
   clear h3 h2
   refine am ?_
   exact ⟨.inr ⟨fun e => by have := (e.2.2.2.2.2.1 k hk).1; have := h3'.down; omega, rfl⟩, _, rfl⟩
  ·have c3 : ((f : Int) < 1) = False := eq_false (by omega)
   have h3' := PLift.up (And.intro h3 h2)
   clear h3 h2
   refine am ?_
   refine ⟨(v', fillb w f p), byam, ⟨_, rfl, .pre g (.pre [_] hv'.cast)⟩, hW'.down.next hf hp (by have := h3'.down.1; omega) (by have := h3'.down.2; omega)⟩
 ·rintro ⟨v, w⟩ fr _ F ⟨⟨g, rfl, hv⟩, hW⟩
  dsimp only at hv hW
  have hW' := PLift.up hW
  clear hW
  have hc : Iu (m ++ (g1 ++ (g2 ++ (g3 ++ Blk.cells true [[.int .i64 N, uw]] :: (g4 ++ [Blk.cells true [[.int .i64 N, v]]]))))).length g v ((N + 63) / 64) w := hv.cast
  have R := hc.rd (G := [])
  simp only [List.append_assoc, List.cons_append, List.nil_append, List.append_nil] at R
  refine am ?_
  refine (Equal_spec R h.u.app (by omega)).mono ?_
  rintro _ _ ⟨rfl, rfl⟩
  have hun := hun'.down
  have hW := hW'.down
  have key : ((N + 63) / 64 = H.us.n ∧ ∀ i, i < (N + 63) / 64 → w i = H.us.w i) ↔ H.framed := by
   rw [← hun]
   obtain ⟨a1, a2, a3, a4⟩ := hW.ok
   obtain ⟨b1, b2, b3, b4⟩ := k2.down
   constructor
   ·rintro ⟨_, e⟩
    have e' := (words_bits hW.ww h.wu).1 e
    refine ⟨k1.down, k2.down, k3.down, by have := h1'.down; omega, by rw [hN]; exact k5.down, hW.s, fun i hi => ?_⟩
    rw [← e' i (by omega)]
    exact hW.b i hi
   ·intro e
    refine ⟨rfl, (words_bits hW.ww h.wu).2 fun i hi => ?_⟩
    by_cases hiN : (i : Int) < H.us.N
    ·have x1 := hW.b i hiN
     have x2 := e.2.2.2.2.2.2 i hiN
     cases h1 : bit w i <;> cases h2 : bit H.us.w i <;> simp_all
    ·rw [a4 i (by omega) hi, b4 i (by omega) hi]
  clear hun hW
  by_cases hf : H.framed
  ·rw [decide_eq_true (key.2 hf)]
   have hf' := PLift.up hf
   clear key hf
   refine am ?_
   exact ⟨.inl ⟨hf'.down, rfl⟩, _, rfl⟩
  ·rw [decide_eq_false (fun e => hf (key.1 e))]
   have hf' := PLift.up hf
   clear key hf
   refine am ?_
   exact ⟨.inr ⟨hf'.down, rfl⟩, _, rfl⟩
end Go.AM.G
set_option maxRecDepth 100000
namespace Go.AM.G
open Go Go.AM
theorem ref_framed_spec {m : Mem} {aw uw sv : V} {va vm : Nat → V} {H : HeapA} (h : HpRd m aw uw sv va vm H) : C S n_ref07_framed [.agg (heapV H aw uw sv)] m (fun r m' => okB H.framed r ∧ Grow m m') := by
 have A := h.a.ar
 have B := h.u.ar
 have D := h.s.s.ar
 have hls := h.ls
 refine fn rfl ?_
 refine (ref_arena_Check_spec h.a.app).mono ?_
 rintro r _ ⟨hr, ⟨g1, rfl⟩⟩
 rcases hr with ⟨hr, rfl⟩ | ⟨hr, rfl⟩
 case inr =>
  have h' := PLift.up hr
  clear hr
  refine am ?_
  exact ⟨.inr ⟨fun e => h'.down e.1, rfl⟩, _, rfl⟩
 have k1 := PLift.up hr
 clear hr
 refine am ?_
 refine (ref_pages_Check_spec h.u.app h.wu h.lu).mono ?_
 rintro r _ ⟨hr, ⟨g2, rfl⟩⟩
 rcases hr with ⟨hr, rfl⟩ | ⟨hr, rfl⟩
 case inr =>
  have h' := PLift.up hr
  clear hr
  refine am ?_
  exact ⟨.inr ⟨fun e => h'.down e.2.1, rfl⟩, _, rfl⟩
 have k2 := PLift.up hr
 clear hr
 refine am ?_
 refine (ref_spans_Check_spec h.s.app h.ls).mono ?_
 rintro r _ ⟨hr, ⟨g3, rfl⟩⟩
 rcases hr with ⟨hr, rfl⟩ | ⟨hr, rfl⟩
 case inr =>
  have h' := PLift.up hr
  clear hr
  refine am ?_
  exact ⟨.inr ⟨fun e => h'.down e.2.2.1, rfl⟩, _, rfl⟩
 have k3 := PLift.up hr
 clear hr
 by_cases h1 : H.us.N < 1
 ·refine am ?_
  exact ⟨.inr ⟨fun e => by have := e.2.2.2.1; omega, rfl⟩, _, rfl⟩
 have k2' := k2.down
 obtain ⟨N, hN⟩ : ∃ N : Nat, H.us.N = N := ⟨H.us.N.toNat, by have := k2'.1; omega⟩
 have hN4 : N ≤ 4096 := by have := k2'.2.1; omega
 have hun : H.us.n = (N + 63) / 64 := by have := k2'.2.2.1; omega
 clear k2'
 have w1 : IntKind.i64.wrap ((N : Int) * 16) = (N : Int) * 16 := by rw [wrap_i64] <;> omega
 have e0 : heapV H aw uw sv = [aw, .int .i64 N, uw, sv] := by simp only [heapV, hN]
 have hun' := PLift.up hun
 have h1' := PLift.up h1
 have cN : ((N : Int) < 1) = False := eq_false (by omega)
 clear hun h1
 by_cases h2 : (H.na : Int) = (N : Int) * 16
 case neg =>
  have h2' := PLift.up h2
  refine am ?_
  exact ⟨.inr ⟨fun e => h2'.down (by have := e.2.2.2.2.1; rw [hN] at this; exact this), rfl⟩, _, rfl⟩
 have k5 := PLift.up h2
 clear h2
 have c5 : ((H.na : Int) = (N : Int) * 16) = True := eq_true k5.down
 refine am ?_
 have hbig : PLift (∀ i, i < N → i < 64 * H.us.n ∧ H.us.n < 1000000) := ⟨fun i hi => by have := hun'.down; omega⟩
 refine (ref01_Is_spec (i := 0) h.u.app h.wu (by have := h1'.down; exact (hbig.down 0 (by omega)).1) (by have := hun'.down; omega)).mono ?_
 rintro _ _ ⟨rfl, ⟨g4, rfl⟩⟩
 cases hb0 : bit H.us.w 0 with
 | false =>
  refine am ?_
  refine ⟨.inr ⟨fun e => ?_, rfl⟩, _, rfl⟩
  have := (e.2.2.2.2.2.2 0 (by have := h1'.down; omega)).2 (.inl rfl)
  rw [hb0] at this; cases this
 | true =>
 refine am ?_
 have spOk : PLift (∀ k, k < H.ns → 0 ≤ (H.sp k).first ∧ (H.sp k).first ≤ 1024 ∧ 1 ≤ (H.sp k).pages ∧ (H.sp k).pages ≤ 4) := ⟨fun k hk => by
  have hok := (k3.down.2 k hk).1
  have hpg : 1 ≤ (H.sp k).pages ∧ (H.sp k).pages ≤ 4 := by rcases hok.1 with h | h <;> omega
  have := hok.2.1; have := hok.2.2.1
  omega⟩
 let I := fun (j : Nat) (fr : Frame) (M : Mem) => ∃ i : Nat, 1 ≤ i ∧ i ≤ N ∧ j = N - i ∧ Has fr [(1, .ptr m.length 0 0), (3, .int .i64 (i : Nat))] ∧ (∃ g, M = m ++ .cells true [[aw, .int .i64 N, uw, sv]] :: g) ∧ ∀ k, 1 ≤ k → k < i → (bit H.us.w k = true ↔ inSpan H.sp H.ns k)
 refine W_loop I ?_ (N - 1) ⟨1, by omega, by have := h1'.down; omega, rfl, byam, ⟨_, rfl⟩, fun k h1 h2 => by omega⟩
 rintro j fr _ ⟨i, hi1, hi, rfl, F, ⟨g, rfl⟩, hk⟩
 have hk' := PLift.up hk
 clear hk
 by_cases h4 : i < N
 ·have c3 : ((i : Int) < (N : Int)) = True := eq_true (by omega)
  refine into ?_
  refine range (α := Bool) H.ns (fun b => [(1, .ptr m.length 0 0), (3, .int .i64 (i : Nat)), (4, .bool b), (58, sv)])
   (fun k b M => (∃ g, M = m ++ .cells true [[aw, .int .i64 N, uw, sv]] :: g) ∧ (b = true ↔ inSpan H.sp k i)) false ⟨⟨_, rfl⟩, by simp [inSpan]⟩ ?_ ?_
  ·rintro k b fr _ hk F ⟨⟨g, rfl⟩, hb⟩
   have hb' := PLift.up hb
   clear hb
   have e := h.s.e k hk
   have A1 := e.a.ar
   have A2 := e.k.ar
   have so := spOk.down k hk
   have w2 : IntKind.i64.wrap ((H.sp k).first + (H.sp k).pages) = (H.sp k).first + (H.sp k).pages := by rw [wrap_i64] <;> omega
   clear so
   cases b with
   | true =>
    refine am ?_
    refine ⟨true, byam, ⟨_, rfl⟩, ?_⟩
    obtain ⟨j, h5, h6⟩ := hb'.down.1 rfl
    exact ⟨fun _ => ⟨j, by omega, h6⟩, fun _ => rfl⟩
   | false =>
    have hno : ¬ inSpan H.sp k i := fun e => by have := hb'.down.2 e; cases this
    have hno' := PLift.up hno
    clear hno
    by_cases h5 : (H.sp k).first ≤ (i : Int)
    ·by_cases h6 : (i : Int) < (H.sp k).first + (H.sp k).pages
     ·refine am ?_
      exact ⟨true, byam, ⟨_, rfl⟩, fun _ => ⟨k, by omega, h5, h6⟩, fun _ => rfl⟩
     ·refine am ?_
      refine ⟨false, byam, ⟨_, rfl⟩, fun e => (by cases e), ?_⟩
      rintro ⟨j, e1, e2⟩
      by_cases e : j = k
      ·subst e; exact absurd e2.2 h6
      ·exact absurd ⟨j, by omega, e2⟩ hno'.down
    ·refine am ?_
     refine ⟨false, byam, ⟨_, rfl⟩, fun e => (by cases e), ?_⟩
     rintro ⟨j, e1, e2⟩
     by_cases e : j = k
     ·subst e; exact absurd e2.1 h5
     ·exact absurd ⟨j, by omega, e2⟩ hno'.down
  ·rintro b fr _ F ⟨⟨g, rfl⟩, hb⟩
   have hb' := PLift.up hb
   clear hb
   refine am ?_
   refine (ref01_Is_spec (i := i) h.u.app h.wu (hbig.down i h4).1 (hbig.down i h4).2).mono ?_
   rintro _ _ ⟨rfl, ⟨g5, rfl⟩⟩
   have w4 : IntKind.i64.wrap ((i : Int) + 1) = ((i + 1 : Nat) : Int) := by rw [wrap_i64] <;> omega
   by_cases hbb : bit H.us.w i = b
   ·have hbb' := PLift.up hbb
    rw [hbb]
    clear hbb
    have e1 : decide (b = b) = true := decide_eq_true rfl
    refine am ?_
    refine ⟨_, by omega, i + 1, by omega, by omega, rfl, byam, ⟨_, rfl⟩, fun k h5 h6 => ?_⟩
    by_cases e : k = i
    ·subst e; rw [hbb'.down]; exact hb'.down
    ·exact hk'.down k h5 (by omega)
   ·have e1 : decide (bit H.us.w i = b) = false := decide_eq_false hbb
    have hbb' := PLift.up hbb
    clear hbb
    refine am ?_
    refine ⟨.inr ⟨fun e => hbb'.down ?_, rfl⟩, _, rfl⟩
    have h7 := e.2.2.2.2.2.2 i (by omega)
    have h8 : bit H.us.w i = true ↔ b = true := h7.trans ⟨fun e => hb'.down.2 (e.resolve_left (by omega)), fun e => .inr (hb'.down.1 e)⟩
    cases h9 : bit H.us.w i <;> cases b <;> simp_all
 ·have c3 : ((i : Int) < (N : Int)) = False := eq_false (by omega)
  refine into ?_
  refine range (α := Unit) H.ns (fun _ => [(1, .ptr m.length 0 0), (89, sv)])
   (fun k _ M => (∃ g, M = m ++ .cells true [[aw, .int .i64 N, uw, sv]] :: g) ∧ ∀ j, j < k → 1 ≤ (H.sp j).first ∧ (H.sp j).first + (H.sp j).pages ≤ N) () ⟨⟨_, rfl⟩, fun j hj => absurd hj (Nat.not_lt_zero _)⟩ ?_ ?_
  ·rintro k ⟨⟩ fr _ hk F ⟨⟨g, rfl⟩, hj⟩
   have hj' := PLift.up hj
   clear hj
   have e := h.s.e k hk
   have A1 := e.a.ar
   have A2 := e.k.ar
   have so := spOk.down k hk
   have w2 : IntKind.i64.wrap ((H.sp k).first + (H.sp k).pages) = (H.sp k).first + (H.sp k).pages := by rw [wrap_i64] <;> omega
   clear so
   by_cases h5 : (H.sp k).first < 1
   ·refine am ?_
    exact ⟨.inr ⟨fun e => by have := (e.2.2.2.2.2.1 k hk).1; omega, rfl⟩, _, rfl⟩
   by_cases h6 : (N : Int) < (H.sp k).first + (H.sp k).pages
   ·refine am ?_
    exact ⟨.inr ⟨fun e => by have := (e.2.2.2.2.2.1 k hk).2; omega, rfl⟩, _, rfl⟩
   refine am ?_
   refine ⟨(), byam, ⟨_, rfl⟩, fun j hj => ?_⟩
   by_cases e : j = k
   ·subst e; omega
   ·exact hj'.down j (by omega)
  ·rintro ⟨⟩ fr _ F ⟨⟨g, rfl⟩, hj⟩
   have hj' := PLift.up hj
   clear hj
   refine am ?_
   refine ⟨.inl ⟨⟨k1.down, k2.down, k3.down, by have := h1'.down; omega, by rw [hN]; exact k5.down, fun k hk => by rw [hN]; exact hj'.down k hk, fun k hk => ?_⟩, rfl⟩, _, rfl⟩
   by_cases e : k = 0
   ·subst e; exact ⟨fun _ => .inl rfl, fun _ => hb0⟩
   ·rw [hk'.down k (by omega) (by omega)]
    exact ⟨.inr, fun h => h.resolve_left e⟩
end Go.AM.G
