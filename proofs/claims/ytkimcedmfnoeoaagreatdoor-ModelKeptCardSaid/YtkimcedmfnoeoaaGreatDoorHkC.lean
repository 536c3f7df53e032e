/- A field of a current object is asked for; whether a list has an address. -/
import Derived.Test.YtkimcedmfnoeoaaGreatDoorHmG
import Derived.Test.YtkimcedmfnoeoaaGreatDoorHkA
import Derived.Test.YtkimcedmfnoeoaaGreatDoorHkA
import Derived.Test.YtkimcedmfnoeoaaGreatDoorEpB
set_option linter.unusedVariables false
set_option linter.unusedSimpArgs false

set_option maxRecDepth 100000
namespace Go.AM.G
open Go Go.AM
def b01 (b : Bool) : Int := if b then 1 else 0
theorem head_Refs1_spec {m : Mem} {N f M : Nat} {v : V} (hs : shOk N M) (hM : M < 18446744073709551616) (hf : f < N) (hN : N ≤ 48) (hv : Rd m v 1 1 (fun _ => [.int .i64 (f : Nat)])) :
    C S n_head_Refs [.agg [.int .i64 (N : Nat), .int .u64 (M : Nat)], v] m (fun r m' => r = .tup [.int .i64 (b01 (M.testBit f)), .int .i64 0] ∧ Grow m m') := by
  have A := hv.ar
  refine fn rfl ?_
  refine (head_Check_spec hM).mono ?_
  rintro _ _ ⟨⟨_, rfl⟩ | ⟨hn, _⟩, ⟨g1, rfl⟩⟩
  case inr => exact absurd hs hn
  have hs' := PLift.up hs
  clear hs
  refine am ?_
  refine range (α := Int) 1 (fun x => [(2, .ptr m.length 0 0), (15, v), (7, .int .i64 x)]) (fun j x M' => (∃ g, M' = m ++ .cells true [[.int .i64 (N : Nat), .int .u64 (M : Nat)]] :: g) ∧ x = if j = 0 then 0 else b01 (M.testBit f)) 0 ⟨⟨_, rfl⟩, rfl⟩ ?_ ?_
  · rintro j x fr _ hj F ⟨⟨g, rfl⟩, hx⟩
    obtain rfl : j = 0 := by omega
    have hx0 : x = 0 := hx
    subst hx0
    have A := (hv.app (g := .cells true [[.int .i64 (N : Nat), .int .u64 (M : Nat)]] :: g)).ar
    have c1 : ((f : Int) < 0) = False := eq_false (by omega)
    have c2 : ((N : Int) ≤ (f : Int)) = False := eq_false (by omega)
    have c3 : ((f : Int) < (N : Int)) = True := eq_true (by omega)
    have c4 : ((0 : Nat) : Int) = 0 := rfl
    have w11 : IntKind.i64.wrap 1 = 1 := rfl
    have ix : asIndex 1 v (.int .i64 0) = some (atp v 0 0) := A.2.2.2.1 .i64 0 (by omega)
    clear hx
    refine am ?_
    refine (head_Is_spec (f := f) hM (by omega)).mono ?_
    rintro _ _ ⟨rfl, ⟨g2, rfl⟩⟩
    cases hb : M.testBit f with
    | true =>
      refine am ?_
      refine ⟨1, byam, ⟨_, rfl⟩, rfl⟩
    | false =>
      refine am ?_
      refine ⟨0, byam, ⟨_, rfl⟩, rfl⟩
  · rintro x fr _ F ⟨⟨g, rfl⟩, hx⟩
    have hx' : x = b01 (M.testBit f) := hx
    subst hx'
    clear hx
    refine am ?_
    exact ⟨_, rfl⟩
theorem Has_spec {m : Mem} {v : V} {l : List Nat} {a : Nat} (hv : Nus m v l) (hl : l.length < 4611686018427387904) : C S n_ref11_Has [v, .int .u64 (a : Nat)] m (fun r m' => r = .bool (decide (a ∈ l)) ∧ m' = m) := by
  have A := hv.ar
  refine fn rfl ?_
  refine range (α := Unit) l.length (fun _ => [(1, .int .u64 (a : Nat)), (7, v)]) (fun j _ M => M = m ∧ ∀ i, i < j → nx l i ≠ a) () ⟨rfl, fun i hi => absurd hi (Nat.not_lt_zero _)⟩ ?_ ?_
  · rintro j ⟨⟩ fr _ hj F ⟨rfl, hj2⟩
    have hj2' := PLift.up hj2
    clear hj2
    by_cases e : nx l j = a
    · have c : ((nx l j : Int) = (a : Int)) = True := eq_true (by omega)
      have yes : decide (a ∈ l) = true := decide_eq_true (e ▸ nx_mem hj)
      clear e
      refine am ?_
      trivial
    · have c : ((nx l j : Int) = (a : Int)) = False := eq_false (by omega)
      have e' := PLift.up e
      clear e
      refine am ?_
      exact ⟨(), byam, rfl, fun i hi => by by_cases h : i = j; exact h ▸ e'.down; exact hj2'.down i (by omega)⟩
  · rintro ⟨⟩ fr _ F ⟨rfl, hj2⟩
    have no : decide (a ∈ l) = false := decide_eq_false fun h => by
      obtain ⟨i, hi, e⟩ := nx_of h
      exact hj2 i hi e
    clear hj2
    refine am ?_
    trivial
theorem head_Ref_spec {m : Mem} {N f M : Nat} (hs : shOk N M) (hM : M < 18446744073709551616) (hf : f < N) (hN : N ≤ 48) :
    C S n_head_Ref [.agg [.int .i64 (N : Nat), .int .u64 (M : Nat)], .int .i64 (f : Nat)] m (fun r m' => r = .tup [.bool (M.testBit f), .int .i64 0] ∧ Grow m m') := by
  have hs' := PLift.up hs
  clear hs
  refine fn rfl ?_
  refine am ?_
  have hr : Rd (m ++ .cells true [[.int .i64 (N : Nat), .int .u64 (M : Nat)]] :: [.cells true [[.int .i64 (f : Nat)]]]) (.slice (m.length + 1) 0 1 1 true 1) 1 1 (fun _ => [.int .i64 (f : Nat)]) := by
    refine .inl ?_
    exact Sl.mk (els := [[.int .i64 (f : Nat)]]) (own := true) (by rw [get_off]; rfl)
  refine (head_Refs1_spec hs'.down hM hf hN hr).mono ?_
  rintro _ _ ⟨rfl, ⟨g, rfl⟩⟩
  cases hb : M.testBit f with
  | true =>
    have e : b01 true = 1 := rfl
    refine am ?_
    exact ⟨_, rfl⟩
  | false =>
    have e : b01 false = 0 := rfl
    refine am ?_
    exact ⟨_, rfl⟩
theorem atp_ptr {m : Mem} {v : V} {z n : Nat} {f : Nat → List V} (h : Rd m v z n f) {i : Nat} (hi : i < n) : ∃ b k, atp v i 0 = .ptr b k 0 := by
  rcases h with ⟨h, _⟩ | ⟨rfl, _⟩
  · cases v with
    | slice b j len cap ex z => exact ⟨b, j + i, rfl⟩
    | nils =>
      simp only [elems, Option.some.injEq] at h
      have := congrArg List.length h
      simp at this
      omega
    | _ => simp [elems] at h
  · omega
theorem field_spec {M : Mem} {P a f : Nat} {own : Bool} {aw nn uw sv ov : V} {l : List ObA} {o : ObA} {na : Nat} {A : Nat → Nat} (hP : M[P]? = some (.cells own [[aw, nn, uw, sv, ov]])) (hv : Obs M ov l) (hr : rises l) (hl : l.length < 1000000)
    (ha : Rd M aw 1 na (u64s A)) (hna : na < 1000000) (h0 : a ≠ 0) (hf : fnd l a = some o) (hw : o.w = A a) (hu : unOk (A a)) (hb : a + 1 + A a % 256 ≤ na) (hlt : f < A a % 256) :
    C S n_heap_store_field [.ptr P 0 0, .int .u64 (a : Nat), .int .i64 (f : Nat)] M (fun r m' => r = .tup [atp aw (a + 1 + f) 0, .bool ((unM (A a)).testBit f), .int .i64 0] ∧ Grow M m') := by
  have hr' := PLift.up hr
  have hu' := PLift.up hu
  have e1 : leadV l a = .tup [.agg (obV o), .int .i64 0] := by unfold leadV; rw [if_neg h0, hf]
  have eo : obV o = [.int .i64 (o.sp : Nat), .int .i64 (o.slot : Nat), .int .u64 (o.addr : Nat), .int .i64 (o.w % 256 : Nat), .int .u64 (unM o.w : Nat), .bool o.cur] := rfl
  have hAr := ha.ar
  clear hr hu hf h0
  refine fn rfl ?_
  refine (lead_spec (own := own) (aw := aw) (nn := nn) (uw := uw) (sv := sv) (ov := ov) hP hv hr'.down hl).mono ?_
  rintro _ _ ⟨rfl, ⟨g, rfl⟩⟩
  rw [e1, eo]
  have w' := PLift.up hw
  clear hw e1 eo
  refine am ?_
  rw [w'.down]
  have hs : shOk ((A a % 256 : Nat) : Int) (unM (A a)) := ⟨by omega, by have := hu'.down.2.1; omega, hu'.down.2.2⟩
  refine (head_Ref_spec hs (by unfold unM; omega) hlt hu'.down.2.1).mono ?_
  rintro _ _ ⟨rfl, ⟨g2, rfl⟩⟩
  have w1 : IntKind.u64.wrap ((a : Int) + 1) = ((a + 1 : Nat) : Int) := (wrap_u64 (by omega) (by omega)).trans (by omega)
  have w2 : IntKind.u64.wrap (f : Int) = (f : Int) := un' (by have := hu'.down.2.1; omega)
  have w3 : IntKind.u64.wrap (((a + 1 : Nat) : Int) + (f : Int)) = ((a + 1 + f : Nat) : Int) := (wrap_u64 (by omega) (by omega)).trans (by omega)
  have c1 : a + 1 + f < na := by omega
  have ix := hAr.2.2.2.1 .u64 _ c1
  refine am ?_
  exact ⟨_, rfl⟩
/-- a field of a current object. -/
theorem Load_spec {m : Mem} {aw uw sv : V} {va vm : Nat → V} {H : HeapA} {a f : Nat} (h : HpRd m aw uw sv va vm H) (hR : H.right) (ha : a ∈ curs (obs H H.ns)) (hf : f < H.a a % 256) :
    C S n_heap_Load [.agg (heapV H aw uw sv), .int .u64 (a : Nat), .int .i64 (f : Nat)] m (fun r m' => r = .tup [.int .u64 (H.a (a + 1 + f) : Nat), .bool ((unM (H.a a)).testBit f), .int .i64 0] ∧ Grow m m') := by
  have A := h.a.ar
  have B := h.u.ar
  have D := h.s.s.ar
  have hR' := PLift.up hR
  have ha' := PLift.up ha
  clear ha hR
  refine fn rfl ?_
  refine (open_spec h.app).mono ?_
  rintro _ _ (⟨hr, rfl, g, ov, rfl, hG⟩ | ⟨hr, rfl, ⟨g, rfl⟩⟩)
  case inr => exact absurd hR'.down hr
  obtain ⟨l, el⟩ : ∃ l, obs H H.ns = l := ⟨_, rfl⟩
  have hw := hr.2.1.wide hr.1 h.wa
  have hol := obs_small hr.1
  have hna := hr.1.na
  obtain ⟨c0, c1, c2, ⟨o, ho, how⟩, _⟩ := HeapA.right.cur hr h.wa ha'.down
  rw [el] at hG hw hol ho
  have hw' := PLift.up hw
  have hO : Obs (m ++ .cells true [heapV H aw uw sv] :: .cells true [heapV H aw uw sv] :: .cells true [[aw, .int .i64 H.us.N, uw, sv, ov]] :: g) ov l := by
    have := Gw.obs (G := []) (A := m ++ [.cells true [heapV H aw uw sv], .cells true [heapV H aw uw sv], .cells true [[aw, .int .i64 H.us.N, uw, sv, ov]]]) hG.cast
    simpa only [List.append_assoc, List.cons_append, List.nil_append, List.append_nil] using this
  have F := fun P hP => field_spec (M := m ++ .cells true [heapV H aw uw sv] :: .cells true [heapV H aw uw sv] :: .cells true [[aw, .int .i64 H.us.N, uw, sv, ov]] :: g) (P := P) (own := true) (aw := aw) (nn := .int .i64 H.us.N) (uw := uw) (sv := sv) (ov := ov) hP hO hw.rises (by omega) h.a.app (by omega) c0 ho how c2 c1 hf
  have F' := PLift.up F
  obtain ⟨b, k, eb⟩ := atp_ptr h.a (show a + 1 + f < H.na by omega)
  rw [eb] at F'
  have lt : a + 1 + f < H.na := by omega
  clear hG hr hw hO F c0 c1 c2 ho how el hw'
  refine am ?_
  refine (F'.down (m.length + (1 + 1)) byam).mono ?_
  rintro _ _ ⟨rfl, ⟨g2, rfl⟩⟩
  have ld := (h.a.app (g := .cells true [heapV H aw uw sv] :: .cells true [heapV H aw uw sv] :: .cells true [[aw, .int .i64 H.us.N, uw, sv, ov]] :: (g ++ g2))).ar.2.2.2.2 (a + 1 + f) 0 none lt
  rw [eb, loadV_ptr] at ld
  clear F' eb
  refine am ?_
  exact ⟨_, rfl⟩
end Go.AM.G


set_option maxRecDepth 100000
namespace Go.AM.G
open Go Go.AM
/-- what stays known of a memory. -/
structure CxM (M : Mem) (aw uw sv tv rv v : V) (va vm : Nat → V) (H : HeapA) (ok : Prop) (rs K W L : List Nat) (s : List E.Slot) (p q : Nat) : Prop where
  h : HpRd M aw uw sv va vm H
  b3 : M[p]? = some (.cells true [heapV H aw uw sv])
  b5 : M[q]? = some (.cells true [[tv]])
  v : Nus M v L
  s : Sl M tv 3 (E.encs s)
  r : Nus M rv rs
  A : EphAll M tv ok K W
theorem CxM.app {M g : Mem} {aw uw sv tv rv v : V} {va vm : Nat → V} {H : HeapA} {ok : Prop} {rs K W L : List Nat} {s : List E.Slot} {p q : Nat} (c : CxM M aw uw sv tv rv v va vm H ok rs K W L s p q) : CxM (M ++ g) aw uw sv tv rv v va vm H ok rs K W L s p q :=
  ⟨c.h.app, getElem?_grow c.b3, getElem?_grow c.b5, c.v.app, c.s.app, c.r.app, c.A.app⟩
def sOf (l : List E.Slot) (i : Nat) : E.Slot := l.getD i default
theorem sOf_mem {l : List E.Slot} {i : Nat} (h : i < l.length) : sOf l i ∈ l := by
  unfold sOf
  rw [List.getD_eq_getElem?_getD, List.getElem?_eq_getElem h]
  exact List.getElem_mem h
theorem slots_rd {M : Mem} {v : V} {l : List E.Slot} (h : Sl M v 3 (E.encs l)) : Rd M v 3 l.length (fun i => E.enc (sOf l i)) := by
  refine .inl ?_
  have e : (List.range l.length).map (fun i => E.enc (sOf l i)) = E.encs l := by
    apply List.ext_getElem
    · simp
    · intro i h1 h2
      have hi : i < l.length := by simpa using h1
      simp [sOf, hi]
  rw [e]
  exact h
theorem Rcb.cur {H : HeapA} {rs K W : List Nat} (hR : H.right) (wa : w64 H.na H.a) (hKW : K.length = W.length) (hm : mOk (curs (obs H H.ns)) rs K W) {a : Nat} (k : Rcb rs (nxtM H.a K W) a) : a ∈ curs (obs H H.ns) := by
  induction k with
  | root h1 h2 => exact (hm _ (List.mem_append_left _ h1)).resolve_left h2
  | step _ h2 h3 ih =>
    rcases h2 with ⟨f, hf, h4, rfl⟩ | ⟨i, hi, _, rfl⟩
    · exact (HeapA.right.cur hR wa ih).2.2.2.2 f hf h4 h3
    · exact (hm _ (List.mem_append_right _ (List.mem_append_left _ (nx_mem (by omega))))).resolve_left h3
theorem ModelClosed_spec {m : Mem} {aw uw sv tv rv : V} {va vm : Nat → V} {H : HeapA} {ok : Prop} {rs K W : List Nat} {s : List E.Slot} (h : HpRd m aw uw sv va vm H) (hrs : Nus m rv rs) (hrl : rs.length + 128 ≤ 17592186044416) (hs : Sl m tv 3 (E.encs s)) (hsl : s.length < 5864062014806) (hA : EphAll m tv ok K W) (hKW : K.length = W.length) (hKl : K.length ≤ 64)
    (hU : ok → ∀ x, x ∈ s → x.st = 1 → ∃ i, i < K.length ∧ x.key = (nx K i : Nat) ∧ x.val = (nx W i : Nat)) :
    C S n_law11_ModelClosed [.agg (heapV H aw uw sv), rv, .agg [tv]] m (fun r _ => r = .bool true) := by
  have A := h.a.ar.2.1
  have B := h.u.ar.2.1
  have D := h.s.s.ar.2.1
  have A1 := hrs.ar
  have tc := hs.cell
  have hA' := PLift.up hA
  have hs' := PLift.up hs
  have hU' := PLift.up hU
  clear hA hs hU
  refine fn rfl ?_
  refine (lives_spec).mono ?_
  rintro _ _ ⟨rfl, rfl⟩
  refine am ?_
  refine (MReach_spec (rs := rs) h.app tc hA'.down.app hKW (by omega) hrs.app (by omega)).mono ?_
  rintro _ _ ⟨g1, rfl, ⟨hno, rfl⟩ | ⟨_, _, hno, rfl⟩ | ⟨hR, hok, hm, v, L, rfl, hG, hsr, hLl, hL⟩⟩
  · clear hno
    refine am ?_
    trivial
  · clear hno
    refine am ?_
    trivial
  have vc := hG.cell
  have c0 : CxM (m ++ .cells true [heapV H aw uw sv] :: .cells true [[tv]] :: g1) aw uw sv tv rv v va vm H ok rs K W L s m.length (m.length + 1) := by
    refine ⟨h.app, by rw [get_off0]; rfl, by rw [get_off]; rfl, ?_, hs'.down.app, hrs.app, hA'.down.app⟩
    have := Gw.sl (G := []) (A := m ++ [.cells true [heapV H aw uw sv], .cells true [[tv]]]) hG.cast
    refine Nus.of ?_
    simpa only [List.append_assoc, List.cons_append, List.nil_append, List.append_nil] using this
  have f1 : ∀ a, a ∈ rs → a ≠ 0 → a ∈ L := fun a h1 h2 => (hL a).2 (.root h1 h2)
  have f2 : ∀ a, a ∈ L → a ∈ curs (obs H H.ns) := fun a ha => Rcb.cur hR h.wa hKW hm ((hL a).1 ha)
  have f3 : ∀ a, a ∈ L → ∀ f, f < H.a a % 256 → (unM (H.a a)).testBit f = true → H.a (a + 1 + f) ≠ 0 → H.a (a + 1 + f) ∈ L := fun a ha f h1 h2 h3 => (hL _).2 (.step ((hL a).1 ha) (.inl ⟨f, h1, h2, rfl⟩) h3)
  have f4 : ∀ x, x ∈ s → x.st = 1 → ∃ a b : Nat, x.key = a ∧ x.val = b ∧ (a ∈ L → b ≠ 0 → b ∈ L) := fun x hx h1 => by
    obtain ⟨i, hi, e1, e2⟩ := hU'.down hok x hx h1
    exact ⟨_, _, e1, e2, fun ha hb => (hL _).2 (.step ((hL _).1 ha) (.inr ⟨i, hi, rfl, rfl⟩) hb)⟩
  have f5 : mOk (curs (obs H H.ns)) L K W := fun a ha => by
    rcases List.mem_append.1 ha with ha | ha
    · exact .inr (f2 a ha)
    · exact hm a (List.mem_append_right _ ha)
  have f6 : ∀ a, Rcb L (nxtM H.a K W) a ↔ a ∈ L := fun a => by
    constructor
    · intro k
      induction k with
      | root h1 _ => exact h1
      | step _ h2 h3 ih => exact (hL _).2 (.step ((hL _).1 ih) h2 h3)
    · intro ha
      exact .root ha (HeapA.right.cur hR h.wa (f2 a ha)).1
  have c0' := PLift.up c0
  have f1' := PLift.up f1
  have f2' := PLift.up f2
  have f3' := PLift.up f3
  have f4' := PLift.up f4
  have f5' := PLift.up f5
  have f6' := PLift.up f6
  have hR' := PLift.up hR
  have hsr' := PLift.up hsr
  have hok' := PLift.up hok
  clear c0 f1 f2 f3 f4 f5 f6 hR hok hsr hL hG hm hU'
  refine am ?_
  obtain ⟨X, eX⟩ : ∃ X, m ++ .cells true [heapV H aw uw sv] :: .cells true [[tv]] :: g1 = X := ⟨_, rfl⟩
  rw [eX] at c0' ⊢
  clear eX
  have cr := c0'.down.r.ar
  refine range (α := Unit) rs.length (fun _ => [(1, rv), (3, .ptr m.length 0 0), (5, .ptr (m.length + 1) 0 0), (7, v), (37, rv)]) (fun _ _ M => M = X) () rfl ?_ ?_
  · rintro k _ fr _ hk F rfl
    by_cases e : nx rs k = 0
    · have c : ((nx rs k : Int) = 0) = True := eq_true (by omega)
      clear e
      refine am ?_
      exact ⟨(), byam, rfl⟩
    · have c : ((nx rs k : Int) = 0) = False := eq_false (by omega)
      have yes := decide_eq_true (f1'.down _ (nx_mem hk) e)
      clear e
      refine am ?_
      refine (Has_spec c0'.down.v (by omega)).mono ?_
      rintro _ _ ⟨rfl, rfl⟩
      rw [yes]
      refine am ?_
      exact ⟨(), byam, rfl⟩
  rintro _ fr X F rfl
  clear cr
  have cv := c0'.down.v.ar
  refine am ?_
  refine range (α := Unit) L.length (fun _ => [(1, rv), (3, .ptr m.length 0 0), (5, .ptr (m.length + 1) 0 0), (7, v), (52, v)]) (fun _ _ M => ∃ g, M = X ++ g) () ⟨[], by simp⟩ ?_ ?_
  · rintro k _ fr _ hk F ⟨g, rfl⟩
    have c1 := c0'.down.app (g := g)
    have cv := c1.v.ar
    have b3 := c1.b3
    have haL : nx L k ∈ L := nx_mem hk
    have hh := PLift.up c1.h
    clear c1
    refine am ?_
    refine (At_spec hh.down).mono ?_
    rintro _ _ ⟨⟨_, rfl⟩ | ⟨hn, _⟩, ⟨g2, rfl⟩⟩
    case inr => exact absurd hR'.down hn
    obtain ⟨n0, n1, n2, ⟨o, ho, how⟩, _⟩ := HeapA.right.cur hR'.down h.wa (f2'.down _ haL)
    have e2 : atV (obs H H.ns) (nx L k) = .tup [.agg [.int .i64 (H.a (nx L k) % 256 : Nat), .int .u64 (unM (H.a (nx L k)) : Nat)], .int .i64 0] := by unfold atV; rw [if_neg n0, ho]; simp only [how]
    rw [e2]
    have hN48 := n2.2.1
    obtain ⟨a, ea⟩ : ∃ a, nx L k = a := ⟨_, rfl⟩
    rw [ea] at haL hN48 ⊢
    clear n0 n1 n2 ho how e2
    refine am ?_
    let I := fun (d : Nat) (fr : Frame) (M : Mem) => ∃ (f : Nat) (g3 : Mem), d + f = H.a a % 256 ∧ M = X ++ (g ++ (g2 ++ (.cells true [[.int .i64 (H.a a % 256 : Nat), .int .u64 (unM (H.a a) : Nat)]] :: g3))) ∧ Has fr [(1, rv), (3, .ptr m.length 0 0), (5, .ptr (m.length + 1) 0 0), (7, v), (52, v), (53, .int .i64 (L.length : Nat)), (54, .int .i64 (k : Nat)), (12, .int .u64 (a : Nat)), (13, .ptr (X.length + (g.length + g2.length)) 0 0), (14, .int .i64 0), (15, .int .i64 (f : Nat))]
    refine W_loop I ?_ (H.a a % 256) ⟨0, [], by omega, rfl, byam⟩
    rintro d fr _ ⟨f, g3, hd, rfl, F⟩
    cases d with
    | zero =>
      have c1 : ((f : Int) < ((H.a a % 256 : Nat) : Int)) = False := eq_false (by omega)
      refine into ?_
      exact ⟨(), byam, _, rfl⟩
    | succ d =>
      have c1 : ((f : Int) < ((H.a a % 256 : Nat) : Int)) = True := eq_true (by omega)
      have w1 : IntKind.i64.wrap ((f : Int) + 1) = ((f + 1 : Nat) : Int) := (wrap_i64 (by omega) (by omega)).trans (by omega)
      have cc := c0'.down.app (g := g ++ (g2 ++ (.cells true [[.int .i64 (H.a a % 256 : Nat), .int .u64 (unM (H.a a) : Nat)]] :: g3)))
      have b3 := cc.b3
      have hh := PLift.up cc.h
      clear cc
      refine into ?_
      refine (Load_spec hh.down hR'.down (f2'.down _ haL) (by omega)).mono ?_
      rintro _ _ ⟨rfl, ⟨g4, rfl⟩⟩
      cases hb : (unM (H.a a)).testBit f with
      | false =>
        refine am ?_
        exact ⟨d, by omega, f + 1, g3 ++ g4, by omega, by simp only [List.append_assoc, List.cons_append], byam⟩
      | true =>
        by_cases w0 : H.a (a + 1 + f) = 0
        · have c2 : ((H.a (a + 1 + f) : Int) = 0) = True := eq_true (by omega)
          clear w0
          refine am ?_
          exact ⟨d, by omega, f + 1, g3 ++ g4, by omega, by simp only [List.append_assoc, List.cons_append], byam⟩
        · have c2 : ((H.a (a + 1 + f) : Int) = 0) = False := eq_false (by omega)
          have yes := decide_eq_true (f3'.down a haL f (by omega) hb w0)
          clear w0
          refine am ?_
          refine (Has_spec c0'.down.app.v (by omega)).mono ?_
          rintro _ _ ⟨rfl, rfl⟩
          rw [yes]
          refine am ?_
          exact ⟨d, by omega, f + 1, g3 ++ g4, by omega, by simp only [List.append_assoc, List.cons_append], byam⟩
  rintro _ fr _ F ⟨g, rfl⟩
  have b5 := (c0'.down.app (g := g)).b5
  have sl := (slots_rd (c0'.down.app (g := g)).s).ar
  refine am ?_
  clear b5 sl
  refine range (α := Unit) s.length (fun _ => [(1, rv), (3, .ptr m.length 0 0), (5, .ptr (m.length + 1) 0 0), (7, v), (99, tv)]) (fun _ _ M => ∃ g, M = X ++ g) () ⟨g, rfl⟩ ?_ ?_
  · rintro k _ fr _ hk F ⟨g, rfl⟩
    have sl := (slots_rd (c0'.down.app (g := g)).s).ar
    have hx := sOf_mem hk
    obtain ⟨x, ex⟩ : ∃ x, sOf s k = x := ⟨_, rfl⟩
    rw [ex] at hx
    have en : E.enc x = [.int .u8 x.st, .int .u64 x.key, .int .u64 x.val] := rfl
    by_cases h1 : x.st = 1
    · obtain ⟨a, b, ea, eb, hab⟩ := f4'.down x hx h1
      have hab' := PLift.up hab
      rw [h1, ea, eb] at en
      clear hx h1 ea eb hab
      refine into ?_
      refine (Has_spec (a := a) c0'.down.app.v (by omega)).mono ?_
      rintro _ _ ⟨rfl, rfl⟩
      by_cases ha : a ∈ L
      · rw [decide_eq_true ha]
        by_cases hb : b = 0
        · have c2 : ((b : Int) = 0) = True := eq_true (by omega)
          clear hb ha
          refine am ?_
          exact ⟨(), byam, _, rfl⟩
        · have c2 : ((b : Int) = 0) = False := eq_false (by omega)
          have yes := decide_eq_true (hab'.down ha hb)
          clear hb ha
          refine am ?_
          refine (Has_spec (a := b) c0'.down.app.v (by omega)).mono ?_
          rintro _ _ ⟨rfl, rfl⟩
          rw [yes]
          refine am ?_
          exact ⟨(), byam, _, rfl⟩
      · rw [decide_eq_false ha]
        clear ha
        refine am ?_
        exact ⟨(), byam, _, rfl⟩
    · have c1 := eq_false h1
      clear hx h1
      refine into ?_
      exact ⟨(), byam, _, rfl⟩
  rintro _ fr _ F ⟨g, rfl⟩
  have b3 := (c0'.down.app (g := g)).b3
  have b5 := (c0'.down.app (g := g)).b5
  refine am ?_
  refine (MReach_spec (rs := L) (K := K) (W := W) (ok := ok) (c0'.down.app (g := g)).h tc (c0'.down.app (g := g)).A hKW (by omega) (c0'.down.app (g := g)).v (by omega)).mono ?_
  rintro _ _ ⟨g2, rfl, ⟨hno, _⟩ | ⟨_, _, hno, _⟩ | ⟨_, _, _, v2, L2, rfl, hG2, hs2, _, hL2⟩⟩
  · exact absurd ⟨hR'.down, hok'.down⟩ hno
  · exact absurd f5'.down hno
  have eL : L2 = L := rise_ext hs2 hsr'.down fun x => by rw [hL2]; exact f6'.down x
  subst eL
  have v2c := hG2.cell
  have n2 : Nus (X ++ (g ++ g2)) v2 L2 := by
    have := Gw.sl (G := []) (A := X ++ g) hG2
    refine Nus.of ?_
    simpa only [List.append_assoc, List.append_nil] using this
  have n1 := (c0'.down.app (g := g ++ g2)).v
  have n1' := PLift.up n1
  have n2' := PLift.up n2
  clear hs2 hL2 hG2 n1 n2
  refine am ?_
  refine (SameW_spec n1'.down n2'.down (by omega)).mono ?_
  rintro _ _ ⟨rfl, rfl⟩
  rw [decide_eq_true ⟨rfl, fun _ _ => rfl⟩]
  exact byam
end Go.AM.G
