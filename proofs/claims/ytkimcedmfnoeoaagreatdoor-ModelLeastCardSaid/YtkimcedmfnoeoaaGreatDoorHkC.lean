/- A field of a current object is asked for; whether a list has an address. -/
import Derived.Test.YtkimcedmfnoeoaaGreatDoorHmG
set_option linter.unusedVariables false
set_option linter.unusedSimpArgs false
set_option maxRecDepth 100000
namespace Go.AM.G
open Go Go.AM
def b01 (b : Bool) : Int := if b then 1 else 0
theorem head_Refs1_spec {m : Mem} {N f M : Nat} {v : V} (hs : shOk N M) (hM : M < 18446744073709551616) (hf : f < N) (hN : N ≤ 48) (hv : Rd m v 1 1 (fun _ => [.int .i64 (f : Nat)])) :
    C S n_head_Refs [.agg [.int .i64 (N : Nat), .int .u64 (M : Nat)], v] m (fun r m' => r = .tup [.int .i64 (b01 (M.testBit f)), .int .i64 0] ∧ Grow m m') := by
  have A := hv.ar
  refine fn rfl ?_
  refine (head_Check_spec hM).mono ?_
  rintro _ _ ⟨⟨_, rfl⟩ | ⟨hn, _⟩, ⟨g1, rfl⟩⟩
  case inr => exact absurd hs hn
  have hs' := PLift.up hs
  clear hs
  refine am ?_
  refine range (α := Int) 1 (fun x => [(2, .ptr m.length 0 0), (15, v), (7, .int .i64 x)]) (fun j x M' => (∃ g, M' = m ++ .cells true [[.int .i64 (N : Nat), .int .u64 (M : Nat)]] :: g) ∧ x = if j = 0 then 0 else b01 (M.testBit f)) 0 ⟨⟨_, rfl⟩, rfl⟩ ?_ ?_
  · rintro j x fr _ hj F ⟨⟨g, rfl⟩, hx⟩
    obtain rfl : j = 0 := by omega
    have hx0 : x = 0 := hx
    subst hx0
    have A := (hv.app (g := .cells true [[.int .i64 (N : Nat), .int .u64 (M : Nat)]] :: g)).ar
    have c1 : ((f : Int) < 0) = False := eq_false (by omega)
    have c2 : ((N : Int) ≤ (f : Int)) = False := eq_false (by omega)
    have c3 : ((f : Int) < (N : Int)) = True := eq_true (by omega)
    have c4 : ((0 : Nat) : Int) = 0 := rfl
    have w11 : IntKind.i64.wrap 1 = 1 := rfl
    have ix : asIndex 1 v (.int .i64 0) = some (atp v 0 0) := A.2.2.2.1 .i64 0 (by omega)
    clear hx
    refine am ?_
    refine (head_Is_spec (f := f) hM (by omega)).mono ?_
    rintro _ _ ⟨rfl, ⟨g2, rfl⟩⟩
    cases hb : M.testBit f with
    | true =>
      refine am ?_
      refine ⟨1, byam, ⟨_, rfl⟩, rfl⟩
    | false =>
      refine am ?_
      refine ⟨0, byam, ⟨_, rfl⟩, rfl⟩
  · rintro x fr _ F ⟨⟨g, rfl⟩, hx⟩
    have hx' : x = b01 (M.testBit f) := hx
    subst hx'
    clear hx
    refine am ?_
    exact ⟨_, rfl⟩
theorem Has_spec {m : Mem} {v : V} {l : List Nat} {a : Nat} (hv : Nus m v l) (hl : l.length < 4611686018427387904) : C S n_ref11_Has [v, .int .u64 (a : Nat)] m (fun r m' => r = .bool (decide (a ∈ l)) ∧ m' = m) := by
  have A := hv.ar
  refine fn rfl ?_
  refine range (α := Unit) l.length (fun _ => [(1, .int .u64 (a : Nat)), (7, v)]) (fun j _ M => M = m ∧ ∀ i, i < j → nx l i ≠ a) () ⟨rfl, fun i hi => absurd hi (Nat.not_lt_zero _)⟩ ?_ ?_
  · rintro j ⟨⟩ fr _ hj F ⟨rfl, hj2⟩
    have hj2' := PLift.up hj2
    clear hj2
    by_cases e : nx l j = a
    · have c : ((nx l j : Int) = (a : Int)) = True := eq_true (by omega)
      have yes : decide (a ∈ l) = true := decide_eq_true (e ▸ nx_mem hj)
      clear e
      refine am ?_
      trivial
    · have c : ((nx l j : Int) = (a : Int)) = False := eq_false (by omega)
      have e' := PLift.up e
      clear e
      refine am ?_
      exact ⟨(), byam, rfl, fun i hi => by by_cases h : i = j; exact h ▸ e'.down; exact hj2'.down i (by omega)⟩
  · rintro ⟨⟩ fr _ F ⟨rfl, hj2⟩
    have no : decide (a ∈ l) = false := decide_eq_false fun h => by
      obtain ⟨i, hi, e⟩ := nx_of h
      exact hj2 i hi e
    clear hj2
    refine am ?_
    trivial
theorem head_Ref_spec {m : Mem} {N f M : Nat} (hs : shOk N M) (hM : M < 18446744073709551616) (hf : f < N) (hN : N ≤ 48) :
    C S n_head_Ref [.agg [.int .i64 (N : Nat), .int .u64 (M : Nat)], .int .i64 (f : Nat)] m (fun r m' => r = .tup [.bool (M.testBit f), .int .i64 0] ∧ Grow m m') := by
  have hs' := PLift.up hs
  clear hs
  refine fn rfl ?_
  refine am ?_
  have hr : Rd (m ++ .cells true [[.int .i64 (N : Nat), .int .u64 (M : Nat)]] :: [.cells true [[.int .i64 (f : Nat)]]]) (.slice (m.length + 1) 0 1 1 true 1) 1 1 (fun _ => [.int .i64 (f : Nat)]) := by
    refine .inl ?_
    exact Sl.mk (els := [[.int .i64 (f : Nat)]]) (own := true) (by rw [get_off]; rfl)
  refine (head_Refs1_spec hs'.down hM hf hN hr).mono ?_
  rintro _ _ ⟨rfl, ⟨g, rfl⟩⟩
  cases hb : M.testBit f with
  | true =>
    have e : b01 true = 1 := rfl
    refine am ?_
    exact ⟨_, rfl⟩
  | false =>
    have e : b01 false = 0 := rfl
    refine am ?_
    exact ⟨_, rfl⟩
theorem atp_ptr {m : Mem} {v : V} {z n : Nat} {f : Nat → List V} (h : Rd m v z n f) {i : Nat} (hi : i < n) : ∃ b k, atp v i 0 = .ptr b k 0 := by
  rcases h with ⟨h, _⟩ | ⟨rfl, _⟩
  · cases v with
    | slice b j len cap ex z => exact ⟨b, j + i, rfl⟩
    | nils =>
      simp only [elems, Option.some.injEq] at h
      have := congrArg List.length h
      simp at this
      omega
    | _ => simp [elems] at h
  · omega
theorem field_spec {M : Mem} {P a f : Nat} {own : Bool} {aw nn uw sv ov : V} {l : List ObA} {o : ObA} {na : Nat} {A : Nat → Nat} (hP : M[P]? = some (.cells own [[aw, nn, uw, sv, ov]])) (hv : Obs M ov l) (hr : rises l) (hl : l.length < 1000000)
    (ha : Rd M aw 1 na (u64s A)) (hna : na < 1000000) (h0 : a ≠ 0) (hf : fnd l a = some o) (hw : o.w = A a) (hu : unOk (A a)) (hb : a + 1 + A a % 256 ≤ na) (hlt : f < A a % 256) :
    C S n_heap_store_field [.ptr P 0 0, .int .u64 (a : Nat), .int .i64 (f : Nat)] M (fun r m' => r = .tup [atp aw (a + 1 + f) 0, .bool ((unM (A a)).testBit f), .int .i64 0] ∧ Grow M m') := by
  have hr' := PLift.up hr
  have hu' := PLift.up hu
  have e1 : leadV l a = .tup [.agg (obV o), .int .i64 0] := by unfold leadV; rw [if_neg h0, hf]
  have eo : obV o = [.int .i64 (o.sp : Nat), .int .i64 (o.slot : Nat), .int .u64 (o.addr : Nat), .int .i64 (o.w % 256 : Nat), .int .u64 (unM o.w : Nat), .bool o.cur] := rfl
  have hAr := ha.ar
  clear hr hu hf h0
  refine fn rfl ?_
  refine (lead_spec (own := own) (aw := aw) (nn := nn) (uw := uw) (sv := sv) (ov := ov) hP hv hr'.down hl).mono ?_
  rintro _ _ ⟨rfl, ⟨g, rfl⟩⟩
  rw [e1, eo]
  have w' := PLift.up hw
  clear hw e1 eo
  refine am ?_
  rw [w'.down]
  have hs : shOk ((A a % 256 : Nat) : Int) (unM (A a)) := ⟨by omega, by have := hu'.down.2.1; omega, hu'.down.2.2⟩
  refine (head_Ref_spec hs (by unfold unM; omega) hlt hu'.down.2.1).mono ?_
  rintro _ _ ⟨rfl, ⟨g2, rfl⟩⟩
  have w1 : IntKind.u64.wrap ((a : Int) + 1) = ((a + 1 : Nat) : Int) := (wrap_u64 (by omega) (by omega)).trans (by omega)
  have w2 : IntKind.u64.wrap (f : Int) = (f : Int) := un' (by have := hu'.down.2.1; omega)
  have w3 : IntKind.u64.wrap (((a + 1 : Nat) : Int) + (f : Int)) = ((a + 1 + f : Nat) : Int) := (wrap_u64 (by omega) (by omega)).trans (by omega)
  have c1 : a + 1 + f < na := by omega
  have ix := hAr.2.2.2.1 .u64 _ c1
  refine am ?_
  exact ⟨_, rfl⟩
/-- a field of a current object. -/
theorem Load_spec {m : Mem} {aw uw sv : V} {va vm : Nat → V} {H : HeapA} {a f : Nat} (h : HpRd m aw uw sv va vm H) (hR : H.right) (ha : a ∈ curs (obs H H.ns)) (hf : f < H.a a % 256) :
    C S n_heap_Load [.agg (heapV H aw uw sv), .int .u64 (a : Nat), .int .i64 (f : Nat)] m (fun r m' => r = .tup [.int .u64 (H.a (a + 1 + f) : Nat), .bool ((unM (H.a a)).testBit f), .int .i64 0] ∧ Grow m m') := by
  have A := h.a.ar
  have B := h.u.ar
  have D := h.s.s.ar
  have hR' := PLift.up hR
  have ha' := PLift.up ha
  clear ha hR
  refine fn rfl ?_
  refine (open_spec h.app).mono ?_
  rintro _ _ (⟨hr, rfl, g, ov, rfl, hG⟩ | ⟨hr, rfl, ⟨g, rfl⟩⟩)
  case inr => exact absurd hR'.down hr
  obtain ⟨l, el⟩ : ∃ l, obs H H.ns = l := ⟨_, rfl⟩
  have hw := hr.2.1.wide hr.1 h.wa
  have hol := obs_small hr.1
  have hna := hr.1.na
  obtain ⟨c0, c1, c2, ⟨o, ho, how⟩, _⟩ := HeapA.right.cur hr h.wa ha'.down
  rw [el] at hG hw hol ho
  have hw' := PLift.up hw
  have hO : Obs (m ++ .cells true [heapV H aw uw sv] :: .cells true [heapV H aw uw sv] :: .cells true [[aw, .int .i64 H.us.N, uw, sv, ov]] :: g) ov l := by
    have := Gw.obs (G := []) (A := m ++ [.cells true [heapV H aw uw sv], .cells true [heapV H aw uw sv], .cells true [[aw, .int .i64 H.us.N, uw, sv, ov]]]) hG.cast
    simpa only [List.append_assoc, List.cons_append, List.nil_append, List.append_nil] using this
  have F := fun P hP => field_spec (M := m ++ .cells true [heapV H aw uw sv] :: .cells true [heapV H aw uw sv] :: .cells true [[aw, .int .i64 H.us.N, uw, sv, ov]] :: g) (P := P) (own := true) (aw := aw) (nn := .int .i64 H.us.N) (uw := uw) (sv := sv) (ov := ov) hP hO hw.rises (by omega) h.a.app (by omega) c0 ho how c2 c1 hf
  have F' := PLift.up F
  obtain ⟨b, k, eb⟩ := atp_ptr h.a (show a + 1 + f < H.na by omega)
  rw [eb] at F'
  have lt : a + 1 + f < H.na := by omega
  clear hG hr hw hO F c0 c1 c2 ho how el hw'
  refine am ?_
  refine (F'.down (m.length + (1 + 1)) byam).mono ?_
  rintro _ _ ⟨rfl, ⟨g2, rfl⟩⟩
  have ld := (h.a.app (g := .cells true [heapV H aw uw sv] :: .cells true [heapV H aw uw sv] :: .cells true [[aw, .int .i64 H.us.N, uw, sv, ov]] :: (g ++ g2))).ar.2.2.2.2 (a + 1 + f) 0 none lt
  rw [eb, loadV_ptr] at ld
  clear F' eb
  refine am ?_
  exact ⟨_, rfl⟩
end Go.AM.G
