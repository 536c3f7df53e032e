/- law11.ModelLeast, on the abstract machine. -/
import Derived.Test.YtkimcedmfnoeoaaGreatDoorHkD
import Derived.Test.YtkimcedmfnoeoaaGreatDoorAmRead
set_option linter.unusedVariables false
set_option linter.unusedSimpArgs false
set_option maxRecDepth 100000
namespace Go.AM.G
open Go Go.AM
theorem slice_to {M : Mem} {u : V} {els : List (List V)} {n : Nat} (h : Sl M u 1 els) (hc : capOk u) (hn : n ≤ els.length) : ∃ y, sliceV u none (some (.int .i64 (n : Nat))) none = some y ∧ Sl M y 1 (els.take n) := by
  rcases h.cases with ⟨rfl, rfl⟩ | ⟨b, i, len, cap, ex, rfl⟩
  · have : n = 0 := by simpa using hn
    subst this
    exact ⟨.nils, by simp [sliceV, bound], ⟨rfl, rfl⟩⟩
  · have h1 := h.1
    simp only [elems] at h1
    split at h1
    case h_2 => cases h1
    rename_i own els0 hb
    split at h1
    case isFalse => cases h1
    rename_i hl
    simp only [Option.some.injEq] at h1
    have hlen : els.length = len := by rw [← h1]; simp; omega
    have hcap : len ≤ cap := hc
    have e1 : n ≤ cap := by omega
    refine ⟨.slice b i n cap ex 1, by simp [sliceV, bound, e1], ?_, by simp [zOk]⟩
    simp only [elems, hb]
    rw [if_pos (by omega), ← h1, List.take_take, Nat.min_eq_left (by omega)]
theorem u64l_take {l : List Nat} {n : Nat} : (u64l l).take n = u64l (l.take n) := by
  unfold u64l
  rw [List.map_take]
theorem ModelLeast_spec {m : Mem} {aw uw sv tv rv : V} {va vm : Nat → V} {H : HeapA} {ok : Prop} {rs K W : List Nat} {s : List E.Slot} {n : Int} {ad : Nat} (h : HpRd m aw uw sv va vm H) (hrs : Sl m rv 1 (u64l rs)) (hcap : capOk rv) (hrl : rs.length + 128 ≤ 17592186044416) (hs : Sl m tv 3 (E.encs s)) (hsl : s.length < 5864062014806) (hA : EphAll m tv ok K W) (hKW : K.length = W.length) (hKl : K.length ≤ 64)
    (hU : ok → ∀ x, x ∈ s → 0 ≤ x.val) (hV : ok → ∀ i, i < K.length → ∃ x, x ∈ s ∧ x.st = 1 ∧ x.val = (nx W i : Nat)) :
    C S n_law11_ModelLeast [.agg (heapV H aw uw sv), rv, .int .i64 n, .agg [tv], .int .u64 (ad : Nat)] m (fun r _ => r = .bool true) := by
  have A := h.a.ar.2.1
  have B := h.u.ar.2.1
  have D := h.s.s.ar.2.1
  have hN : Nus m rv rs := Nus.of hrs
  have A1 := hN.ar
  have tc := hs.cell
  have hA' := PLift.up hA
  have hs' := PLift.up hs
  have hU' := PLift.up hU
  have hV' := PLift.up hV
  have hN' := PLift.up hN
  have hr' := PLift.up hrs
  clear hA hs hU hV hN hrs
  refine fn rfl ?_
  refine (lives_spec).mono ?_
  rintro _ _ ⟨rfl, rfl⟩
  refine am ?_
  refine (MReach_spec (rs := rs) h.app tc hA'.down.app hKW (by omega) hN'.down.app (by omega)).mono ?_
  rintro _ _ ⟨g1, rfl, ⟨hno, rfl⟩ | ⟨_, _, hno, rfl⟩ | ⟨hR, hok, hm, v, L, rfl, hG, hsr, hLl, hL⟩⟩
  · clear hno
    refine am ?_
    trivial
  · clear hno
    refine am ?_
    trivial
  have vc := hG.cell
  have c0 : CxM (m ++ .cells true [heapV H aw uw sv] :: .cells true [[tv]] :: g1) aw uw sv tv rv v va vm H ok rs K W L s m.length (m.length + 1) := by
    refine ⟨h.app, by rw [get_off0]; rfl, by rw [get_off]; rfl, ?_, hs'.down.app, hN'.down.app, hA'.down.app⟩
    have := Gw.sl (G := []) (A := m ++ [.cells true [heapV H aw uw sv], .cells true [[tv]]]) hG.cast
    refine Nus.of ?_
    simpa only [List.append_assoc, List.cons_append, List.nil_append, List.append_nil] using this
  have r0 : Sl (m ++ .cells true [heapV H aw uw sv] :: .cells true [[tv]] :: g1) rv 1 (u64l rs) := hr'.down.app
  have f2 : ∀ a, Rcb rs (nxtM H.a K W) a → a ∈ curs (obs H H.ns) := fun a ha => Rcb.cur hR h.wa hKW hm ha
  have c0' := PLift.up c0
  have r0' := PLift.up r0
  have f2' := PLift.up f2
  have hR' := PLift.up hR
  have hm' := PLift.up hm
  have hok' := PLift.up hok
  have hL' := PLift.up hL
  clear c0 r0 f2 hR hok hsr hL hG hm hr'
  obtain ⟨X, eX⟩ : ∃ X, m ++ .cells true [heapV H aw uw sv] :: .cells true [[tv]] :: g1 = X := ⟨_, rfl⟩
  rw [eX] at c0' r0'
  simp only [List.append_assoc, List.cons_append, List.nil_append]
  rw [eX]
  clear eX
  by_cases n0 : n < 0
  · have c := eq_true n0
    clear n0
    refine am ?_
    trivial
  have c := eq_false n0
  by_cases n1 : (rs.length : Int) < n
  · have c1 := eq_true n1
    clear n0 n1
    refine am ?_
    trivial
  have c1 := eq_false n1
  obtain ⟨k, rfl⟩ : ∃ k : Nat, n = k := ⟨n.toNat, by omega⟩
  have hk : k ≤ rs.length := by omega
  obtain ⟨y, hy, hyS⟩ := slice_to r0'.down hcap (n := k) (by simpa using hk)
  rw [u64l_take] at hyS
  have hyS' := PLift.up hyS
  have on : ∀ {α β : Type} {f : α → β}, Option.map f none = none := rfl
  have os : ∀ {α β : Type} {f : α → β} {x : α}, Option.map f (some x) = some (f x) := rfl
  have yc := hyS.cell
  have b3 := c0'.down.b3
  have b5 := c0'.down.b5
  clear n0 n1 hyS
  refine am ?_
  refine (MReach_spec (rs := rs.take k) (K := K) (W := W) (ok := ok) c0'.down.h tc c0'.down.A hKW (by omega) (Nus.of hyS'.down) (by rw [List.length_take]; omega)).mono ?_
  rintro _ _ ⟨g2, rfl, ⟨hno, _⟩ | ⟨_, _, hno, _⟩ | ⟨_, _, _, v1, L1, rfl, hG1, _, hl1, hL1⟩⟩
  · exact absurd ⟨hR'.down, hok'.down⟩ hno
  · exact absurd (hm'.down.sub fun x hx => List.mem_of_mem_take hx) hno
  have v1c := hG1.cell
  have n1 : Nus (X ++ g2) v1 L1 := by
    have := Gw.sl (G := []) (A := X) hG1
    refine Nus.of ?_
    simpa only [List.append_nil] using this
  have f1 : ∀ a, a ∈ L1 → a ∈ L := fun a ha => (hL'.down a).2 (Rcb.sub (fun x hx => List.mem_of_mem_take hx) ((hL1 a).1 ha))
  have c1' := PLift.up (c0'.down.app (g := g2))
  have f1' := PLift.up f1
  have n1' := PLift.up n1
  have cv0 := n1.ar
  clear hG1 hL1 f1 n1 b3 b5
  refine am ?_
  clear cv0
  obtain ⟨Y, eY⟩ : ∃ Y, X ++ g2 = Y := ⟨_, rfl⟩
  rw [eY] at c1' n1' ⊢
  clear eY c0' r0' hyS'
  have cv := n1'.down.ar
  refine range (α := Unit) L1.length (fun _ => [(1, rv), (4, .int .u64 (ad : Nat)), (5, .ptr m.length 0 0), (8, .ptr (m.length + 1) 0 0), (11, v), (14, .int .i64 0), (59, v1)]) (fun _ _ M => M = Y) () rfl ?_ ?_
  · rintro j _ fr _ hj F rfl
    have yes := decide_eq_true (f1'.down _ (nx_mem hj))
    refine am ?_
    refine (Has_spec c1'.down.v (by omega)).mono ?_
    rintro _ _ ⟨rfl, rfl⟩
    rw [yes]
    refine am ?_
    exact ⟨(), byam, rfl⟩
  rintro _ fr Y F rfl
  clear cv
  refine am ?_
  refine (Has_spec c1'.down.r (by omega)).mono ?_
  rintro _ Y ⟨rfl, rfl⟩
  by_cases har : ad ∈ rs
  · rw [decide_eq_true har]
    clear har
    refine am ?_
    trivial
  rw [decide_eq_false har]
  have har' := PLift.up har
  have b3 := c1'.down.b3
  clear har
  refine am ?_
  refine (Objects_spec c1'.down.h).mono ?_
  rintro _ _ (⟨_, g3, v2, rfl, rfl, hG2⟩ | ⟨hn, _⟩)
  case inr => exact absurd hR'.down hn
  have hcl : (curs (obs H H.ns)).length ≤ 2048 := Nat.le_trans curs_len (obs_small hR'.down.1)
  have hcur' := PLift.up (fun a ha => HeapA.right.cur hR'.down h.wa (a := a) ha)
  obtain ⟨cs, ecs⟩ : ∃ cs, curs (obs H H.ns) = cs := ⟨_, rfl⟩
  have ecs' := PLift.up ecs
  rw [ecs] at hG2 hcl hcur' f2'
  have v2c := hG2.cell
  have n2 : Nus (Y ++ g3) v2 cs := by
    have := Gw.sl (G := []) (A := Y) hG2
    refine Nus.of ?_
    simpa only [List.append_nil] using this
  have c2' := PLift.up (c1'.down.app (g := g3))
  have n2' := PLift.up n2
  have cv0 := n2.ar
  clear hG2 n2 b3 ecs
  refine am ?_
  clear cv0
  obtain ⟨Z, eZ⟩ : ∃ Z, Y ++ g3 = Z := ⟨_, rfl⟩
  rw [eZ] at c2' n2' ⊢
  clear eZ c1' n1'
  have cv := n2'.down.ar
  refine range (α := Unit) cs.length (fun _ => [(4, .int .u64 (ad : Nat)), (5, .ptr m.length 0 0), (8, .ptr (m.length + 1) 0 0), (11, v), (18, .int .i64 0), (84, v2)]) (fun k _ M => (∃ g, M = Z ++ g) ∧ ∀ j, j < k → ∀ f, f < H.a (nx cs j) % 256 → (unM (H.a (nx cs j))).testBit f = true → H.a (nx cs j + 1 + f) ≠ ad) () ⟨⟨[], by simp⟩, fun j h => absurd h (Nat.not_lt_zero _)⟩ ?_ ?_
  · rintro k _ fr _ hk F ⟨⟨g, rfl⟩, hJ⟩
    have cc := c2'.down.app (g := g)
    have cv := (n2'.down.app (g := g)).ar
    have b3 := cc.b3
    have haL : nx cs k ∈ cs := nx_mem hk
    have hh := PLift.up cc.h
    have hJ' := PLift.up hJ
    clear cc hJ
    refine am ?_
    refine (At_spec hh.down).mono ?_
    rintro _ _ ⟨⟨_, rfl⟩ | ⟨hn, _⟩, ⟨g2, rfl⟩⟩
    case inr => exact absurd hR'.down hn
    obtain ⟨n0, n1, n2, ⟨o, ho, how⟩, _⟩ := hcur'.down _ haL
    have e2 : atV (obs H H.ns) (nx cs k) = .tup [.agg [.int .i64 (H.a (nx cs k) % 256 : Nat), .int .u64 (unM (H.a (nx cs k)) : Nat)], .int .i64 0] := by unfold atV; rw [if_neg n0, ho]; simp only [how]
    rw [e2]
    have hN48 := n2.2.1
    obtain ⟨a, ea⟩ : ∃ a, nx cs k = a := ⟨_, rfl⟩
    rw [ea] at haL hN48 ⊢
    have ea' := PLift.up ea
    clear n0 n1 n2 ho how e2
    refine am ?_
    let I := fun (d : Nat) (fr : Frame) (M : Mem) => ∃ (f : Nat) (g3 : Mem), d + f = H.a a % 256 ∧ M = Z ++ (g ++ (g2 ++ (.cells true [[.int .i64 (H.a a % 256 : Nat), .int .u64 (unM (H.a a) : Nat)]] :: g3))) ∧ (∀ f', f' < f → (unM (H.a a)).testBit f' = true → H.a (a + 1 + f') ≠ ad) ∧ Has fr [(4, .int .u64 (ad : Nat)), (5, .ptr m.length 0 0), (8, .ptr (m.length + 1) 0 0), (11, v), (18, .int .i64 0), (84, v2), (85, .int .i64 (cs.length : Nat)), (86, .int .i64 (k : Nat)), (20, .int .u64 (a : Nat)), (21, .ptr (Z.length + (g.length + g2.length)) 0 0), (23, .int .i64 (f : Nat))]
    refine W_loop I ?_ (H.a a % 256) ⟨0, [], by omega, rfl, fun f h => absurd h (Nat.not_lt_zero _), byam⟩
    rintro d fr _ ⟨f, g3, hd, rfl, hF, F⟩
    have hF' := PLift.up hF
    clear hF
    cases d with
    | zero =>
      have c1 : ((f : Int) < ((H.a a % 256 : Nat) : Int)) = False := eq_false (by omega)
      refine into ?_
      refine ⟨(), byam, ⟨_, rfl⟩, fun j hj => ?_⟩
      by_cases e : j = k
      · subst e
        rw [ea'.down]
        intro f1 h1 h2
        exact hF'.down f1 (by omega) h2
      · exact hJ'.down j (by omega)
    | succ d =>
      have c1 : ((f : Int) < ((H.a a % 256 : Nat) : Int)) = True := eq_true (by omega)
      have w1 : IntKind.i64.wrap ((f : Int) + 1) = ((f + 1 : Nat) : Int) := (wrap_i64 (by omega) (by omega)).trans (by omega)
      have cc := c2'.down.app (g := g ++ (g2 ++ (.cells true [[.int .i64 (H.a a % 256 : Nat), .int .u64 (unM (H.a a) : Nat)]] :: g3)))
      have b3 := cc.b3
      have hh := PLift.up cc.h
      clear cc
      refine into ?_
      refine (Load_spec hh.down hR'.down (ecs'.down ▸ haL) (by omega)).mono ?_
      rintro _ _ ⟨rfl, ⟨g4, rfl⟩⟩
      cases hb : (unM (H.a a)).testBit f with
      | false =>
        refine am ?_
        refine ⟨d, by omega, f + 1, g3 ++ g4, by omega, by simp only [List.append_assoc, List.cons_append], fun f' h1 h2 => ?_, byam⟩
        by_cases e : f' = f
        · subst e; rw [hb] at h2; cases h2
        · exact hF'.down f' (by omega) h2
      | true =>
        by_cases w0 : H.a (a + 1 + f) = ad
        · have c2 : ((H.a (a + 1 + f) : Int) = (ad : Int)) = True := eq_true (by omega)
          clear w0
          refine am ?_
          trivial
        · have c2 : ((H.a (a + 1 + f) : Int) = (ad : Int)) = False := eq_false (by omega)
          have w0' := PLift.up w0
          clear w0
          refine am ?_
          refine ⟨d, by omega, f + 1, g3 ++ g4, by omega, by simp only [List.append_assoc, List.cons_append], fun f' h1 h2 => ?_, byam⟩
          by_cases e : f' = f
          · subst e; exact w0'.down
          · exact hF'.down f' (by omega) h2
  rintro _ fr _ F ⟨⟨g, rfl⟩, hJ⟩
  have hJ' := PLift.up hJ
  have b5 := (c2'.down.app (g := g)).b5
  have sl := (slots_rd (c2'.down.app (g := g)).s).ar
  clear hJ
  refine am ?_
  clear b5 sl
  refine range (α := Unit) s.length (fun _ => [(4, .int .u64 (ad : Nat)), (11, v), (18, .int .i64 0), (118, tv)]) (fun k _ M => (∃ g, M = Z ++ g) ∧ ∀ j, j < k → (sOf s j).st = 1 → (sOf s j).val ≠ (ad : Int)) () ⟨⟨g, rfl⟩, fun j h => absurd h (Nat.not_lt_zero _)⟩ ?_ ?_
  · rintro k _ fr _ hk F ⟨⟨g, rfl⟩, hS⟩
    have sl := (slots_rd (c2'.down.app (g := g)).s).ar
    have hS' := PLift.up hS
    obtain ⟨x, ex⟩ : ∃ x, sOf s k = x := ⟨_, rfl⟩
    have ex' := PLift.up ex
    have en : E.enc x = [.int .u8 x.st, .int .u64 x.key, .int .u64 x.val] := rfl
    clear hS
    by_cases h1 : x.st = 1
    · have c1 := eq_true h1
      clear h1
      by_cases h2 : x.val = (ad : Int)
      · have c2 := eq_true h2
        clear h2
        refine into ?_
        trivial
      · have c2 := eq_false h2
        have h2' := PLift.up h2
        clear h2
        refine into ?_
        refine ⟨(), byam, ⟨_, rfl⟩, fun j hj hs => ?_⟩
        by_cases e : j = k
        · subst e; rw [ex'.down]; exact h2'.down
        · exact hS'.down j (by omega) hs
    · have c1 := eq_false h1
      have h1' := PLift.up h1
      clear h1
      refine into ?_
      refine ⟨(), byam, ⟨_, rfl⟩, fun j hj hs => ?_⟩
      by_cases e : j = k
      · subst e; rw [ex'.down] at hs; exact absurd hs h1'.down
      · exact hS'.down j (by omega) hs
  rintro _ fr _ F ⟨⟨g, rfl⟩, hS⟩
  have no : ad ∉ L := fun ha => by
    cases (hL'.down ad).1 ha with
    | root h1 _ => exact har'.down h1
    | step k1 k2 k3 =>
      rcases k2 with ⟨f, hf, h4, h5⟩ | ⟨i, hi, _, h5⟩
      · obtain ⟨j, hj, rfl⟩ := nx_of (f2'.down _ k1)
        exact hJ'.down j hj f hf h4 h5
      · obtain ⟨x, hx, h6, h7⟩ := hV'.down hok'.down i hi
        obtain ⟨j, hj, e⟩ := List.getElem_of_mem hx
        have e' : sOf s j = x := by unfold sOf; rw [List.getD_eq_getElem?_getD, List.getElem?_eq_getElem hj]; exact e
        exact hS j hj (by rw [e']; exact h6) (by rw [e', h7, h5])
  have no' := PLift.up no
  clear hS no
  refine am ?_
  refine (Has_spec c2'.down.app.v (by omega)).mono ?_
  rintro _ _ ⟨rfl, rfl⟩
  rw [decide_eq_false no'.down]
  exact byam
end Go.AM.G
