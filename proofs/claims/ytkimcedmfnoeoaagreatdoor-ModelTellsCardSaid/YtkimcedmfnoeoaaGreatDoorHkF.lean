/- Specials: they are copied, looked through, some deleted. -/
import Derived.Test.YtkimcedmfnoeoaaGreatDoorHkA
import Derived.Test.YtkimcedmfnoeoaaGreatDoorHmG
import Derived.Test.YtkimcedmfnoeoaaGreatDoorEpB
set_option linter.unusedVariables false
set_option linter.unusedSimpArgs false
set_option maxRecDepth 100000
namespace Go.AM.G
open Go Go.AM
def spOf (l : List Spc) (i : Nat) : Spc := l.getD i default
theorem spOf_map {l : List Spc} : l.map spcV = (List.range l.length).map (fun i => spcV (spOf l i)) := by
 apply List.ext_getElem
 ·simp
 ·intro i h1 h2
  have hi : i < l.length := by simpa using h1
  simp [spOf, hi]
theorem spOf_mem {l : List Spc} {i : Nat} (h : i < l.length) : spOf l i ∈ l := by
 unfold spOf
 rw [List.getD_eq_getElem?_getD, List.getElem?_eq_getElem h]
 exact List.getElem_mem h
theorem spOf_get {l : List Spc} {i : Nat} (h : i < l.length) : l[i]? = some (spOf l i) := by
 unfold spOf
 rw [List.getD_eq_getElem?_getD, List.getElem?_eq_getElem h]
 rfl
abbrev Sps (m : Mem) (v : V) (l : List Spc) : Prop := Rd m v 3 l.length (fun i => spcV (spOf l i))
theorem Sps.of {m : Mem} {v : V} {l : List Spc} (h : Sl m v 3 (l.map spcV)) : Sps m v l := .inl (spOf_map (l := l) ▸ h)
def Tells (m : Mem) (c : V) (l : List Spc) (p : Spc → Bool) : Prop := ∀ g x, x ∈ l → CV S c [.agg (spcV x)] (m ++ g) (fun r m' => r = .bool (p x) ∧ Grow (m ++ g) m')
theorem Tells.app {m g : Mem} {c : V} {l : List Spc} {p : Spc → Bool} (h : Tells m c l p) : Tells (m ++ g) c l p := fun g2 x hx => by
 rw [List.append_assoc]
 exact h (g ++ g2) x hx
theorem IndexFuncS_spec {m : Mem} {v c : V} {l : List Spc} {p : Spc → Bool} (hv : Sps m v l) (hl : l.length < 4611686018427387904) (hc : Tells m c l p) : C S n_slices_IndexFunc_Special [v, c] m (fun r m' => Grow m m' ∧ ((r = .int .i64 (-1) ∧ ∀ x, x ∈ l → p x = false) ∨ ∃ i, i < l.length ∧ r = .int .i64 (i : Nat) ∧ p (spOf l i) = true ∧ ∀ j, j < i → p (spOf l j) = false)) := by
 have A := hv.ar
 have hc' := PLift.up hc
 clear hc
 refine fn rfl ?_
 refine range (α := Unit) l.length (fun _ => [(0, v), (1, c)]) (fun k _ M => (∃ g, M = m ++ g) ∧ ∀ j, j < k → p (spOf l j) = false) () ⟨⟨[], by simp⟩, fun j h => absurd h (Nat.not_lt_zero _)⟩ ?_ ?_
 ·rintro k _ fr _ hk F ⟨⟨g, rfl⟩, hj⟩
  have A := (hv.app (g := g)).ar
  have hx := spOf_mem hk
  have hj' := PLift.up hj
  obtain ⟨x, ex⟩ : ∃ x, spOf l k = x := ⟨_, rfl⟩
  have ex' := PLift.up ex
  rw [ex] at hx
  have en : spcV x = [.int .u64 (x.ad : Nat), .int .u8 (x.kd : Nat), .int .u64 (x.tg : Nat)] := rfl
  have Cx := hc'.down g x hx
  rw [en] at Cx
  have Cx' := PLift.up Cx
  clear hj Cx
  refine am ?_
  refine CV_mono Cx'.down ?_
  rintro _ _ ⟨rfl, ⟨g2, rfl⟩⟩
  cases hp : p x with
  | true =>
   clear ex
   refine am ?_
   exact ⟨⟨_, rfl⟩, .inr ⟨k, hk, rfl, by rw [ex'.down]; exact hp, hj'.down⟩⟩
  | false =>
   clear ex
   refine am ?_
   refine ⟨(), byam, ⟨_, rfl⟩, fun j hj => ?_⟩
   by_cases e : j = k
   ·subst e; rw [ex'.down]; exact hp
   ·exact hj'.down j (by omega)
 ·rintro _ fr _ F ⟨⟨g, rfl⟩, hj⟩
  have hj' := PLift.up hj
  clear hj
  refine am ?_
  refine ⟨⟨_, rfl⟩, .inl fun x hx => ?_⟩
  obtain ⟨i, hi, e⟩ := List.getElem_of_mem hx
  have := hj'.down i hi
  rw [show spOf l i = x by unfold spOf; rw [List.getD_eq_getElem?_getD, List.getElem?_eq_getElem hi]; exact e] at this
  exact this
theorem ContainsFuncS_spec {m : Mem} {v c : V} {l : List Spc} {p : Spc → Bool} (hv : Sps m v l) (hl : l.length < 4611686018427387904) (hc : Tells m c l p) : C S n_slices_ContainsFunc_Special [v, c] m (fun r m' => Grow m m' ∧ r = .bool (l.any p)) := by
 have A := hv.ar
 have hc' := PLift.up hc
 clear hc
 refine fn rfl ?_
 refine (IndexFuncS_spec hv hl hc'.down).mono ?_
 rintro _ _ ⟨⟨g, rfl⟩, ⟨rfl, hn⟩ | ⟨i, hi, rfl, hp, _⟩⟩
 ·have e : l.any p = false := by rw [List.any_eq_false]; exact fun x hx => by rw [hn x hx]; decide
  clear hn
  refine am ?_
  exact ⟨_, rfl⟩
 ·have e : l.any p = true := List.any_eq_true.2 ⟨_, spOf_mem hi, hp⟩
  have c1 : ((0 : Int) ≤ (i : Int)) = True := eq_true (by omega)
  clear hp
  refine am ?_
  exact ⟨_, rfl⟩
theorem In.split {len : Nat} {g : Mem} {v : V} {z : Nat} {els : List (List V)} (h : In len g v z els) : (v = .nils ∧ els = []) ∨ ∃ P R cap ex, g = P ++ .cells true els :: R ∧ v = .slice (len + P.length) 0 els.length cap ex z := by
 rcases (h.use (List.replicate len .dead) (by simp)).cases with ⟨h1, h2⟩ | ⟨b, cap, ex, h1, h2, h3⟩
 ·exact .inl ⟨h1, h2⟩
 ·rw [List.getElem?_append_right (by simpa using h1), List.length_replicate] at h3
  obtain ⟨hb, e⟩ := List.getElem?_eq_some_iff.1 h3
  refine .inr ⟨g.take (b - len), g.drop (b - len + 1), cap, ex, ?_, ?_⟩
  ·rw [← e, List.getElem_cons_drop, List.take_append_drop]
  ·rw [h2, List.length_take, Nat.min_eq_left (by omega), show len + (b - len) = b by omega]
def keep (p : Spc → Bool) (l : List Spc) : List Spc := l.filter fun x => !p x
theorem keep_snoc {p : Spc → Bool} {l : List Spc} {j : Nat} (h : j < l.length) : keep p (l.take (j + 1)) = keep p (l.take j) ++ if p (spOf l j) = true then [] else [spOf l j] := by
 unfold keep
 rw [List.take_add_one, spOf_get h, List.filter_append]
 congr 1
 by_cases e : p (spOf l j) = true
 ·rw [if_pos e]; simp [e]
 ·rw [if_neg e]; simp [e]
theorem keep_le {p : Spc → Bool} {l : List Spc} {j : Nat} : (keep p (l.take j)).length ≤ j := by
 unfold keep
 have := List.length_filter_le (fun x => !p x) (l.take j)
 have := List.length_take_le j l
 omega
theorem CloneS_spec {m : Mem} {v : V} {l : List Spc} (hv : Sps m v l) (hn : l.length < 5864062014806) : C S n_slices_Clone_Special [v] m (fun r m' => ∃ g, m' = m ++ g ∧ In m.length g r 3 (l.map spcV) ∧ E.capOk r = true) := by
 rw [spOf_map]
 rcases hv with hv | ⟨e, rfl⟩
 ·rcases hv.cases with ⟨rfl, he⟩ | ⟨b, i, len, cap, ex, rfl⟩
  ·refine fn rfl ?_
   first
    | exact ⟨[], by simp, .mk ⟨⟨rfl, rfl⟩, .inl rfl⟩⟩
    | exact ⟨[], by simp, .mk ⟨⟨rfl, rfl⟩, .inl rfl⟩, rfl⟩
  ·obtain ⟨v', m', a1, ⟨g, rfl⟩, a3⟩ := append_new (zero := [V.int .u64 0, V.int .u8 0, V.int .u64 0]) (bytes := 24) hv rfl (by decide) (by simp; omega)
   have hcap := E.append_cap a1
   refine fn rfl ?_
   first
    | exact ⟨g, rfl, .mk a3⟩
    | exact ⟨g, rfl, .mk a3, hcap⟩
 ·rw [e]
  refine fn rfl ?_
  exact ⟨.slice m.length 0 0 0 true 3, m ++ [.cells true []], by simp [appendV, elemsY, zOk], [.cells true []], rfl, .mk ⟨Sl.mk (els := []) (own := true) (by simp), .inr ⟨_, _, _, Nat.le_refl _, rfl, by simp⟩⟩, rfl⟩
def InS (len : Nat) (g : Mem) (v : V) (z : Nat) (els : List (List V)) : Prop := ∀ A : Mem, A.length = len → Sl (A ++ g) v z els
theorem InS.app {len : Nat} {g G : Mem} {v : V} {z : Nat} {els : List (List V)} (h : InS len g v z els) : InS len (g ++ G) v z els := fun A hA => by
 rw [← List.append_assoc]
 exact (h A hA).app
theorem InS.pre {len : Nat} {g : Mem} {v : V} {z : Nat} {els : List (List V)} (L : Mem) (h : InS (len + L.length) g v z els) : InS len (L ++ g) v z els := fun A hA => by
 rw [← List.append_assoc]
 exact h (A ++ L) (by simp [hA])
theorem InS.cast {a c : Nat} {g : Mem} {v : V} {z : Nat} {els : List (List V)} (h : InS a g v z els) (e : a = c := by (try simp only [List.length_append, List.length_cons, List.length_nil]) <;> omega) : InS c g v z els := e ▸ h
theorem In.s {len : Nat} {g : Mem} {v : V} {z : Nat} {els : List (List V)} (h : In len g v z els) : InS len g v z els := fun A hA => (h.use A hA).1
theorem Gw.s {len : Nat} {g : Mem} {v : V} {z : Nat} {els : List (List V)} (h : Gw len g v z els) : InS len g v z els := fun A hA => by
 subst hA
 have := Gw.sl (A := A) (G := []) h
 rwa [List.append_nil] at this
theorem InS.cell {len : Nat} {g : Mem} {v : V} {z : Nat} {els : List (List V)} (h : InS len g v z els) : v.isCell = true := (h (List.replicate len .dead) (by simp)).cell
theorem DeleteFuncS_spec {m g0 : Mem} {v c : V} {l : List Spc} {p : Spc → Bool} (hv : In m.length g0 v 3 (l.map spcV)) (hcap : E.capOk v = true) (hl : l.length < 4611686018427387904) (hc : Tells m c l p) : C S n_slices_DeleteFunc_Special [v, c] (m ++ g0) (fun r m' => ∃ g, m' = m ++ g ∧ InS m.length g r 3 ((keep p l).map spcV)) := by
 have hc' := PLift.up hc
 have hv' := PLift.up hv
 have vc := hv.cell
 have A0 : Sps (m ++ g0) v l := Sps.of (hv.use m rfl).1
 have hcc := PLift.up hcap
 obtain ⟨Q, hQ⟩ : ∃ Q : V → Mem → Prop, Q = fun r m' => ∃ g, m' = m ++ g ∧ InS m.length g r 3 ((keep p l).map spcV) := ⟨_, rfl⟩
 rw [← hQ]
 have hQ' := PLift.up hQ
 clear hc hv hcap hQ
 refine fn rfl ?_
 refine (IndexFuncS_spec A0 hl hc'.down.app).mono ?_
 rintro _ _ ⟨⟨g1, rfl⟩, ⟨rfl, hn⟩ | ⟨i, hi, rfl, hp, hj⟩⟩
 ·have e : keep p l = l := List.filter_eq_self.2 fun x hx => by rw [hn x hx]; rfl
  have done : PLift (Q v (m ++ (g0 ++ g1))) := ⟨by rw [hQ'.down]; exact ⟨_, rfl, by rw [e]; exact (In.s hv'.down).app⟩⟩
  clear hn e
  refine am ?_
  exact done.down
 rcases In.split hv'.down with ⟨rfl, he⟩ | ⟨P, R, cap, ex, rfl, rfl⟩
 ·have : l = [] := by simpa using he
  subst this
  exact absurd hi (Nat.not_lt_zero _)
 have hlc : l.length ≤ cap := by simpa [E.capOk] using hcc.down
 have elen : (l.map spcV).length = l.length := by simp
 rw [elen]
 have c0 : ((i : Int) = -1) = False := eq_false (by omega)
 have w0 : IntKind.i64.wrap ((i : Int) + 1) = ((i + 1 : Nat) : Int) := (wrap_i64 (by omega) (by omega)).trans (by omega)
 have hp' := PLift.up hp
 have hj' := PLift.up hj
 clear hp hj A0 vc
 refine am ?_
 let I := fun (d : Nat) (fr : Frame) (M : Mem) => ∃ (j : Nat) (t : List Spc) (R : Mem), d + j = l.length ∧ M = m ++ (P ++ .cells true (t.map spcV) :: R) ∧ t.length = l.length ∧ t.take (keep p (l.take j)).length = keep p (l.take j) ∧ t.drop j = l.drop j ∧ (keep p (l.take j)).length < j ∧ Has fr [(0, .slice (m.length + P.length) 0 l.length cap ex 3), (1, c), (5, .int .i64 ((keep p (l.take j)).length : Nat)), (6, .int .i64 (j : Nat))]
 refine W_loop I ?_ (l.length - (i + 1)) ?_
 ·rintro d fr _ ⟨j, t, R, hd, rfl, htl, htt, htd, hlt, F⟩
  have htt' := PLift.up htt
  have htd' := PLift.up htd
  have htl' := PLift.up htl
  obtain ⟨n, en⟩ : ∃ n, (keep p (l.take j)).length = n := ⟨_, rfl⟩
  have en' := PLift.up en
  rw [en] at F hlt
  clear htt htd htl en
  cases d with
  | zero =>
   have ej : j = l.length := by omega
   subst ej
   have c1 : ((l.length : Int) < (l.length : Int)) = False := eq_false (by omega)
   have on : ∀ {α β : Type} {f : α → β}, Option.map f none = none := rfl
   have os : ∀ {α β : Type} {f : α → β} {x : α}, Option.map f (some x) = some (f x) := rfl
   have sv1 : sliceV (.slice (m.length + P.length) 0 l.length cap ex 3) (some (.int .i64 n)) none none = some (.slice (m.length + P.length) n (l.length - n) (cap - n) ex 3) := by
    have e1 : n ≤ l.length := by omega
    simp [sliceV, bound, e1]
   have sv2 : sliceV (.slice (m.length + P.length) 0 l.length cap ex 3) none (some (.int .i64 n)) none = some (.slice (m.length + P.length) 0 n cap ex 3) := by
    have e1 : n ≤ cap := by omega
    simp [sliceV, bound, e1]
   have cl : clearV (m ++ (P ++ .cells true (t.map spcV) :: R)) [.int .u64 0, .int .u8 0, .int .u64 0] (.slice (m.length + P.length) n (l.length - n) (cap - n) ex 3) = some (undef, m ++ (P ++ .cells true (over (t.map spcV) n (List.replicate (l.length - n) [.int .u64 0, .int .u8 0, .int .u64 0])) :: R)) := by
    have e1 : n + (l.length - n) ≤ t.length := by rw [htl'.down]; omega
    have e2 : (m ++ (P ++ .cells true (t.map spcV) :: R))[m.length + P.length]? = some (.cells true (t.map spcV)) := by rw [get_off, get_off0]; rfl
    simp only [clearV, e2, List.length_cons, List.length_nil, ne_eq, not_true_eq_false, if_false, List.length_map, if_pos e1]
    rw [set_off, set_off0]
    rfl
   have zk : zOk (.slice (m.length + P.length) 0 l.length cap ex 3) 3 = true := by simp [zOk]
   have done : PLift (Q (.slice (m.length + P.length) 0 n cap ex 3) (m ++ (P ++ .cells true (over (t.map spcV) n (List.replicate (l.length - n) [.int .u64 0, .int .u8 0, .int .u64 0])) :: R))) := by
    refine ⟨?_⟩
    rw [hQ'.down]
    refine ⟨_, rfl, fun A hA => ⟨?_, by simp [zOk]⟩⟩
    have e2 : ∀ y, (A ++ (P ++ y :: R))[m.length + P.length]? = some y := fun y => by rw [← hA, get_off, get_off0]; rfl
    have e3 : keep p (l.take l.length) = keep p l := by rw [List.take_length]
    simp only [elems, e2]
    rw [if_pos (by unfold over; simp only [List.length_append, List.length_take, List.length_map, List.length_replicate, List.length_drop, htl'.down]; omega)]
    unfold over
    rw [List.drop_zero, List.take_append_of_le_length (by simp only [List.length_take, List.length_map, htl'.down]; omega), List.take_take, Nat.min_self, ← List.map_take]
    have := htt'.down
    rw [en'.down, e3] at this
    rw [this]
   refine into ?_
   exact done.down
  | succ d =>
   have hjl : j < l.length := by omega
   have htx : t[j]? = some (spOf l j) := by
    have := congrArg (fun z : List Spc => z[0]?) htd'.down
    simpa [List.getElem?_drop, spOf_get hjl] using this
   have hus := keep_snoc (p := p) hjl
   have hxm := spOf_mem hjl
   obtain ⟨x, exq⟩ : ∃ x, spOf l j = x := ⟨_, rfl⟩
   rw [exq] at htx hus hxm
   have ex' := PLift.up exq
   have c1 : ((j : Int) < (l.length : Int)) = True := eq_true (by omega)
   have w1 : IntKind.i64.wrap ((j : Int) + 1) = ((j + 1 : Nat) : Int) := (wrap_i64 (by omega) (by omega)).trans (by omega)
   have w2 : IntKind.i64.wrap ((n : Int) + 1) = ((n + 1 : Nat) : Int) := (wrap_i64 (by omega) (by omega)).trans (by omega)
   have ix : ∀ k : Nat, k < l.length → asIndex 3 (.slice (m.length + P.length) 0 l.length cap ex 3) (.int .i64 (k : Nat)) = some (.ptr (m.length + P.length) k 0) := fun k hk => by
    simp only [asIndex, Int.toNat_natCast, Nat.zero_add]
    rw [if_pos ⟨by omega, by omega, trivial⟩]
   have ix1 := ix j hjl
   have ix2 := ix n (by omega)
   have lb : loadB (some (.cells true (t.map spcV))) (some 3) j 0 = some (.agg [.int .u64 (x.ad : Nat), .int .u8 (x.kd : Nat), .int .u64 (x.tg : Nat)]) := by
    rw [loadB_mk, List.getElem?_map, htx]; rfl
   have sb : storeB (some (.cells true (t.map spcV))) 3 n 0 (.agg [.int .u64 (x.ad : Nat), .int .u8 (x.kd : Nat), .int .u64 (x.tg : Nat)]) = some (.cells true ((t.set n x).map spcV)) := by
    obtain ⟨y, hy⟩ : ∃ y, t[n]? = some y := ⟨_, List.getElem?_eq_getElem (by rw [htl'.down]; omega)⟩
    simp only [storeB, List.getElem?_map, hy, Option.map_some]
    rw [if_pos ⟨rfl, by simp [spcV], rfl⟩, List.map_set]
    rfl
   have Cx := fun g => hc'.down g x hxm
   have en : spcV x = [.int .u64 (x.ad : Nat), .int .u8 (x.kd : Nat), .int .u64 (x.tg : Nat)] := rfl
   rw [en] at Cx
   have Cx' := PLift.up Cx
   have hus' := PLift.up hus
   clear ix hus hxm Cx en exq htx
   refine into ?_
   refine CV_mono (Cx'.down _) ?_
   rintro _ _ ⟨rfl, ⟨g2, rfl⟩⟩
   simp only [List.append_assoc, List.cons_append, List.nil_append]
   cases hp : p x with
   | true =>
    have e1 : keep p (l.take (j + 1)) = keep p (l.take j) := by rw [hus'.down, if_pos hp, List.append_nil]
    have e2 : (keep p (l.take (j + 1))).length = n := by rw [e1]; exact en'.down
    have e1' := PLift.up e1
    clear e1
    refine am ?_
    refine into ?_
    refine ⟨d, by omega, j + 1, t, _, by omega, rfl, htl'.down, ?_, ?_, by omega, byam⟩
    ·rw [e1'.down]; exact htt'.down
    ·have := congrArg (List.drop 1) htd'.down
     simpa [List.drop_drop] using this
   | false =>
    have e1 : keep p (l.take (j + 1)) = keep p (l.take j) ++ [x] := by rw [hus'.down, if_neg (by rw [hp]; decide)]
    have e2 : (keep p (l.take (j + 1))).length = n + 1 := by rw [e1, List.length_append, en'.down]; rfl
    have e1' := PLift.up e1
    clear e1
    refine am ?_
    refine into ?_
    refine ⟨d, by omega, j + 1, t.set n x, _, by omega, rfl, by rw [List.length_set]; exact htl'.down, ?_, ?_, by omega, byam⟩
    ·obtain ⟨y, hy⟩ : ∃ y, t[n]? = some y := ⟨_, List.getElem?_eq_getElem (by rw [htl'.down]; omega)⟩
     rw [e2, List.take_set, e1'.down]
     have a2 : t.take (n + 1) = t.take n ++ [y] := by
      obtain ⟨a3, e3⟩ := List.getElem?_eq_some_iff.1 hy
      rw [List.take_succ_eq_append_getElem a3, e3]
     have h3 := htt'.down
     have h4 := en'.down
     rw [h4] at h3
     rw [a2, h3, List.set_append_right _ _ (by omega), h4]
     simp
    ·rw [List.drop_set, if_pos (by omega)]
     have := congrArg (List.drop 1) htd'.down
     simpa [List.drop_drop] using this
 ·have hus := keep_snoc (p := p) hi
  have hall : keep p (l.take i) = l.take i := List.filter_eq_self.2 fun x hx => by
   obtain ⟨k, hk, e⟩ := List.getElem_of_mem hx
   have hk' : k < i := by simp at hk; omega
   have := hj'.down k hk'
   rw [show spOf l k = x by unfold spOf; rw [List.getD_eq_getElem?_getD, List.getElem?_eq_getElem (by omega)]; rw [← e, List.getElem_take]; rfl] at this
   rw [this]; rfl
  rw [if_pos hp'.down, List.append_nil, hall] at hus
  have e2 : (keep p (l.take (i + 1))).length = i := by rw [hus, List.length_take]; omega
  have hus' := PLift.up hus
  clear hus
  refine ⟨i + 1, l, R ++ g1, by omega, rfl, rfl, ?_, rfl, by omega, byam⟩
  rw [e2, hus'.down]
end Go.AM.G
set_option maxRecDepth 100000
namespace Go.AM.G
open Go Go.AM
def oneP (s : Spc) : Bool := decide (0 < s.ad) && (decide (0 < s.kd) && decide (s.kd < 3))
theorem one_spec {m : Mem} {x : Spc} : C S n_special_one [.agg [.int .u64 (x.ad : Nat), .int .u8 (x.kd : Nat), .int .u64 (x.tg : Nat)]] m (fun r m' => r = .bool (oneP x) ∧ Grow m m') := by
 by_cases h1 : 0 < x.ad
 ·have c1 : ((0 : Int) < (x.ad : Int)) = True := eq_true (by omega)
  by_cases h2 : 0 < x.kd
  ·have c2 : ((0 : Int) < (x.kd : Int)) = True := eq_true (by omega)
   by_cases h3 : x.kd < 3
   ·have c3 : ((x.kd : Int) < 3) = True := eq_true (by omega)
    have e : oneP x = true := by simp [oneP, h1, h2, h3]
    clear h1 h2 h3
    refine fn rfl ?_
    exact ⟨_, rfl⟩
   ·have c3 : ((x.kd : Int) < 3) = False := eq_false (by omega)
    have e : oneP x = false := by simp [oneP, h3]
    clear h1 h2 h3
    refine fn rfl ?_
    exact ⟨_, rfl⟩
  ·have c2 : ((0 : Int) < (x.kd : Int)) = False := eq_false (by omega)
   have e : oneP x = false := by simp [oneP, h2]
   clear h1 h2
   refine fn rfl ?_
   exact ⟨_, rfl⟩
 ·have c1 : ((0 : Int) < (x.ad : Int)) = False := eq_false (by omega)
  have e : oneP x = false := by simp [oneP, h1]
  clear h1
  refine fn rfl ?_
  exact ⟨_, rfl⟩
def finP (a : Nat) (s : Spc) : Bool := decide (s.ad = a) && decide (s.kd = 1)
theorem final1_spec {M : Mem} {x : Spc} {b a : Nat} {own : Bool} (hb : M[b]? = some (.cells own [[.int .u64 (a : Nat)]])) : C S n_special_final_1 [.agg [.int .u64 (x.ad : Nat), .int .u8 (x.kd : Nat), .int .u64 (x.tg : Nat)], .ptr b 0 0] M (fun r m' => r = .bool (finP a x) ∧ Grow M m') := by
 have hlt := (List.getElem?_eq_some_iff.1 hb).1
 have hb2 : ∀ g : Mem, (M ++ g)[b]? = some (.cells own [[.int .u64 (a : Nat)]]) := fun g => getElem?_grow hb
 by_cases h1 : x.ad = a
 ·have c1 : ((x.ad : Int) = (a : Int)) = True := eq_true (by omega)
  by_cases h2 : x.kd = 1
  ·have c2 : ((x.kd : Int) = 1) = True := eq_true (by omega)
   have e : finP a x = true := by simp [finP, h1, h2]
   clear h1 h2
   refine fn rfl ?_
   exact ⟨_, rfl⟩
  ·have c2 : ((x.kd : Int) = 1) = False := eq_false (by omega)
   have e : finP a x = false := by simp [finP, h2]
   clear h1 h2
   refine fn rfl ?_
   exact ⟨_, rfl⟩
 ·have c1 : ((x.ad : Int) = (a : Int)) = False := eq_false (by omega)
  have e : finP a x = false := by simp [finP, h1]
  clear h1
  refine fn rfl ?_
  exact ⟨_, rfl⟩
theorem final_spec {m : Mem} {v : V} {l : List Spc} {a : Nat} (hv : Sps m v l) (hl : l.length < 4611686018427387904) : C S n_special_final [v, .int .u64 (a : Nat)] m (fun r m' => r = .bool (l.any (finP a)) ∧ Grow m m') := by
 have A := hv.ar
 refine fn rfl ?_
 refine (ContainsFuncS_spec (p := finP a) hv.app hl fun g x _ => ?_).mono ?_
 ·show C S n_special_final_1 ([] ++ ([.agg (spcV x)] ++ [.ptr m.length 0 0])) _ _
  exact final1_spec (own := true) (getElem?_grow (by simp))
 rintro _ _ ⟨⟨g, rfl⟩, rfl⟩
 refine am ?_
 exact ⟨_, rfl⟩
def sortedP (l : List Spc) : Prop := ∀ i, 0 < i → i < l.length → (spOf l (i - 1)).ad ≤ (spOf l i).ad
theorem Check1_spec {m : Mem} {x y : Spc} : C S n_special_Check_1 [.agg [.int .u64 (x.ad : Nat), .int .u8 (x.kd : Nat), .int .u64 (x.tg : Nat)], .agg [.int .u64 (y.ad : Nat), .int .u8 (y.kd : Nat), .int .u64 (y.tg : Nat)]] m (fun r m' => r = .int .i64 (cmpI x.ad y.ad) ∧ Grow m m') := by
 refine fn rfl ?_
 refine Compare_spec.mono ?_
 rintro _ _ ⟨rfl, ⟨g, rfl⟩⟩
 refine am ?_
 exact ⟨_, rfl⟩
theorem IsSorted_spec {m : Mem} {v : V} {l : List Spc} (hv : Sps m v l) (hl : l.length < 4611686018427387904) : C S n_slices_IsSortedFunc_Special [v, .fn n_special_Check_1 [] []] m (fun r m' => Grow m m' ∧ (r = .bool true ∧ sortedP l ∨ r = .bool false ∧ ¬ sortedP l)) := by
 have A := hv.ar
 have w0 : IntKind.i64.wrap ((l.length : Int) - 1) = (l.length : Int) - 1 := wrap_i64 (by omega) (by omega)
 obtain ⟨Q, hQ⟩ : ∃ Q : V → Mem → Prop, Q = fun r m' => Grow m m' ∧ (r = .bool true ∧ sortedP l ∨ r = .bool false ∧ ¬ sortedP l) := ⟨_, rfl⟩
 rw [← hQ]
 have hQ' := PLift.up hQ
 clear hQ
 refine fn rfl ?_
 let I := fun (d : Nat) (fr : Frame) (M : Mem) => ∃ g, M = m ++ g ∧ (d ≤ l.length) ∧ (∀ i, 0 < i → d ≤ i → i < l.length → (spOf l (i - 1)).ad ≤ (spOf l i).ad) ∧ Has fr [(0, v), (1, .fn n_special_Check_1 [] []), (5, .int .i64 ((d : Int) - 1))]
 refine W_loop I ?_ l.length ⟨[], by simp, Nat.le_refl _, fun i h1 h2 h3 => by omega, byam⟩
 rintro d fr _ ⟨g, rfl, hd, hs, F⟩
 have hs' := PLift.up hs
 clear hs
 by_cases h0 : (0 : Int) < (d : Int) - 1
 case neg =>
  have c0 := eq_false h0
  have done : PLift (Q (.bool true) (m ++ g)) := ⟨by rw [hQ'.down]; exact ⟨⟨_, rfl⟩, .inl ⟨rfl, fun i h1 h2 => hs'.down i h1 (by omega) h2⟩⟩⟩
  clear h0
  refine into ?_
  exact done.down
 obtain ⟨j, rfl⟩ : ∃ j, d = j + 2 := ⟨d - 2, by omega⟩
 have c0 := eq_true h0
 have e5 : ((j + 2 : Nat) : Int) - 1 = ((j + 1 : Nat) : Int) := by omega
 have w1 : IntKind.i64.wrap (((j + 1 : Nat) : Int) - 1) = ((j : Nat) : Int) := (wrap_i64 (by omega) (by omega)).trans (by omega)
 rw [e5] at F c0
 have A := (hv.app (g := g)).ar
 obtain ⟨x, ex⟩ : ∃ x, spOf l (j + 1) = x := ⟨_, rfl⟩
 obtain ⟨y, ey⟩ : ∃ y, spOf l j = y := ⟨_, rfl⟩
 have l1 : j + 1 < l.length := by omega
 have l2 : j < l.length := by omega
 have en : spcV x = [.int .u64 (x.ad : Nat), .int .u8 (x.kd : Nat), .int .u64 (x.tg : Nat)] := rfl
 have eny : spcV y = [.int .u64 (y.ad : Nat), .int .u8 (y.kd : Nat), .int .u64 (y.tg : Nat)] := rfl
 have ex' := PLift.up ex
 have ey' := PLift.up ey
 clear h0 e5
 refine into ?_
 refine (Check1_spec (x := x) (y := y)).mono ?_
 rintro _ _ ⟨rfl, ⟨g2, rfl⟩⟩
 by_cases hc : x.ad < y.ad
 ·have e : cmpI x.ad y.ad = -1 := if_pos hc
  rw [e]
  have done : ∀ M, M = m ++ (g ++ g2) → Q (.bool false) M := fun M eM => by
   rw [hQ'.down, eM]
   refine ⟨⟨_, rfl⟩, .inr ⟨rfl, fun h => ?_⟩⟩
   have := h (j + 1) (by omega) l1
   rw [ex'.down, Nat.add_sub_cancel, ey'.down] at this
   omega
  have done' := PLift.up done
  clear hc e done
  refine am ?_
  exact done'.down _ (by simp only [List.append_assoc])
 ·have c : (cmpI x.ad y.ad < 0) = False := eq_false (by unfold cmpI; rw [if_neg hc]; split <;> decide)
  have hc' := PLift.up hc
  clear hc
  refine am ?_
  have e7 : ((j + 1 : Nat) : Int) - 1 = (j : Int) := by omega
  refine ⟨j + 1, by omega, g ++ g2, by simp only [List.append_assoc], by omega, fun i h1 h2 h3 => ?_, byam⟩
  by_cases e : i = j + 1
  ·subst e
   rw [ex'.down, Nat.add_sub_cancel, ey'.down]
   have := hc'.down
   omega
  ·exact hs'.down i h1 (by omega) h3
theorem slice_toZ {M : Mem} {u : V} {z : Nat} {els : List (List V)} {n : Nat} (h : Sl M u z els) (hc : capOk u) (hn : n ≤ els.length) : ∃ y, sliceV u none (some (.int .i64 (n : Nat))) none = some y ∧ Sl M y z (els.take n) := by
 rcases h.cases with ⟨rfl, rfl⟩ | ⟨b, i, len, cap, ex, rfl⟩
 ·have : n = 0 := by simpa using hn
  subst this
  exact ⟨.nils, by simp [sliceV, bound], ⟨rfl, rfl⟩⟩
 ·have h1 := h.1
  simp only [elems] at h1
  split at h1
  case h_2 => cases h1
  rename_i own els0 hb
  split at h1
  case isFalse => cases h1
  rename_i hl
  simp only [Option.some.injEq] at h1
  have hlen : els.length = len := by rw [← h1]; simp; omega
  have hcap : len ≤ cap := hc
  have e1 : n ≤ cap := by omega
  refine ⟨.slice b i n cap ex z, by simp [sliceV, bound, e1], ?_, by simp [zOk]⟩
  simp only [elems, hb]
  rw [if_pos (by omega), ← h1, List.take_take, Nat.min_eq_left (by omega)]
def spRight (l : List Spc) : Prop := l.length ≤ 64 ∧ sortedP l ∧ ∀ i, i < l.length → oneP (spOf l i) = true ∧ ¬ ((spOf l i).kd = 1 ∧ (l.take i).any (finP (spOf l i).ad) = true)
theorem special_Check_spec {m : Mem} {v : V} {l : List Spc} (hv : Sl m v 3 (l.map spcV)) (hcap : capOk v) (hl : l.length < 5864062014806) : C S n_special_Check [v] m (fun r m' => okE (spRight l) r ∧ Grow m m') := by
 have A := (Sps.of hv).ar
 have hv' := PLift.up hv
 have hcc := PLift.up hcap
 obtain ⟨Q, hQ⟩ : ∃ Q : V → Mem → Prop, Q = fun r m' => okE (spRight l) r ∧ Grow m m' := ⟨_, rfl⟩
 rw [← hQ]
 have hQ' := PLift.up hQ
 clear hv hcap hQ
 refine fn rfl ?_
 refine (IsSorted_spec (Sps.of hv'.down) (by omega)).mono ?_
 rintro _ _ ⟨⟨g, rfl⟩, hsort⟩
 have bad : ∀ g, ¬ spRight l → Q (.int .i64 2) (m ++ g) := fun g h => by rw [hQ'.down]; exact ⟨.inr ⟨h, rfl⟩, _, rfl⟩
 have bad' := PLift.up bad
 clear bad
 by_cases h64 : (64 : Int) < (l.length : Int)
 ·have c := eq_true h64
  have done : PLift (Q (.int .i64 2) (m ++ g)) := ⟨bad'.down g fun h => by have := h.1; omega⟩
  rcases hsort with ⟨rfl, _⟩ | ⟨rfl, _⟩
  all_goals
   clear h64
   refine am ?_
   exact done.down
 have c := eq_false h64
 rcases hsort with ⟨rfl, hso⟩ | ⟨rfl, hso⟩
 case inr =>
  have done : PLift (Q (.int .i64 2) (m ++ g)) := ⟨bad'.down g fun h => hso h.2.1⟩
  clear h64 hso
  refine am ?_
  exact done.down
 have hso' := PLift.up hso
 have h64' : l.length ≤ 64 := by omega
 clear h64 hso
 refine am ?_
 refine range (α := Unit) l.length (fun _ => [(0, v), (15, v)]) (fun k _ M => (∃ g, M = m ++ g) ∧ ∀ i, i < k → oneP (spOf l i) = true ∧ ¬ ((spOf l i).kd = 1 ∧ (l.take i).any (finP (spOf l i).ad) = true)) () ⟨⟨g, rfl⟩, fun i h => absurd h (Nat.not_lt_zero _)⟩ ?_ ?_
 ·rintro k _ fr _ hk F ⟨⟨g, rfl⟩, hI⟩
  have A := ((Sps.of hv'.down).app (g := g)).ar
  have hI' := PLift.up hI
  obtain ⟨x, ex⟩ : ∃ x, spOf l k = x := ⟨_, rfl⟩
  have ex' := PLift.up ex
  have en : spcV x = [.int .u64 (x.ad : Nat), .int .u8 (x.kd : Nat), .int .u64 (x.tg : Nat)] := rfl
  obtain ⟨y, hy, hyS⟩ := slice_toZ hv'.down hcc.down (n := k) (by simpa using Nat.le_of_lt hk)
  rw [← List.map_take] at hyS
  have hyS' := PLift.up hyS
  have hno : oneP x = false ∨ (x.kd = 1 ∧ (l.take k).any (finP x.ad) = true) → PLift (∀ g, Q (.int .i64 2) (m ++ g)) := fun h => ⟨fun g => bad'.down g fun hr => by
   have := hr.2.2 k hk
   rw [ex'.down] at this
   rcases h with h | h
   ·rw [h] at this; exact absurd this.1 (by decide)
   ·exact this.2 h⟩
  have hno' := PLift.up hno
  have on : ∀ {α β : Type} {f : α → β}, Option.map f none = none := rfl
  have os : ∀ {α β : Type} {f : α → β} {x : α}, Option.map f (some x) = some (f x) := rfl
  clear hI hyS hno
  refine am ?_
  refine (one_spec (x := x)).mono ?_
  rintro _ _ ⟨rfl, ⟨g2, rfl⟩⟩
  cases h1 : oneP x with
  | false =>
   have no := hno'.down (.inl h1)
   clear ex
   refine am ?_
   exact no.down _
  | true =>
   by_cases h2 : x.kd = 1
   case neg =>
    have c2 : ((x.kd : Int) = 1) = False := eq_false (by omega)
    have h2' := PLift.up h2
    clear h2 ex
    refine am ?_
    refine ⟨(), byam, ⟨_, rfl⟩, fun i hi => ?_⟩
    by_cases e : i = k
    ·subst e; rw [ex'.down]; exact ⟨h1, fun h => h2'.down h.1⟩
    ·exact hI'.down i (by omega)
   have c2 : ((x.kd : Int) = 1) = True := eq_true (by omega)
   have h2' := PLift.up h2
   clear h2 ex
   refine am ?_
   refine (final_spec (Sps.of hyS'.down).app (by rw [List.length_take]; omega)).mono ?_
   rintro _ _ ⟨rfl, ⟨g3, rfl⟩⟩
   simp only [List.append_assoc, List.cons_append]
   cases h3 : (l.take k).any (finP x.ad) with
   | true =>
    have no := hno'.down (.inr ⟨h2'.down, h3⟩)
    refine am ?_
    exact no.down _
   | false =>
    refine am ?_
    refine ⟨(), byam, ⟨_, rfl⟩, fun i hi => ?_⟩
    by_cases e : i = k
    ·subst e; rw [ex'.down]; exact ⟨h1, fun h => by rw [h3] at h; exact absurd h.2 (by decide)⟩
    ·exact hI'.down i (by omega)
 ·rintro _ fr _ F ⟨⟨g, rfl⟩, hI⟩
  have done : PLift (Q (.int .i64 0) (m ++ g)) := ⟨by rw [hQ'.down]; exact ⟨.inl ⟨⟨h64', hso'.down, hI⟩, rfl⟩, _, rfl⟩⟩
  clear hI
  refine am ?_
  exact done.down
end Go.AM.G
