/- The document's way: what roots lead to. -/
import Derived.Test.YtkimcedmfnoeoaaGreatDoorHkK
import Derived.Test.YtkimcedmfnoeoaaGreatDoorEpB
import Derived.Test.YtkimcedmfnoeoaaGreatDoorHkF
import Derived.Test.YtkimcedmfnoeoaaGreatDoorHkH
set_option linter.unusedVariables false
set_option linter.unusedSimpArgs false
set_option maxRecDepth 100000
namespace Go.AM.G
open Go Go.AM
theorem nodup_all {l k : List Nat} (hl : l.Nodup) (hs : ∀ x, x ∈ l → x ∈ k) (hle : k.length ≤ l.length) {x : Nat} (hx : x ∈ k) : x ∈ l := by
 refine Classical.byContradiction fun hn => ?_
 have := nodup_sub (l := x :: l) (k := k) (List.nodup_cons.2 ⟨hn, hl⟩) (fun y hy => by
  rcases List.mem_cons.1 hy with rfl | hy
  ·exact hx
  ·exact hs y hy)
 simp only [List.length_cons] at this
 omega
structure rOk (cs rs : List Nat) (s : List E.Slot) : Prop where
 r : ∀ a, a ∈ rs → a = 0 ∨ a ∈ cs
 s : ∀ q, q ∈ s → q.st = 1 → ∀ a b : Nat, q.key = a → q.val = b → a ∈ cs ∧ (b = 0 ∨ b ∈ cs)
def rReachR (H : HeapA) (s : List E.Slot) (rs : List Nat) (M : Mem) (r : V) : Prop :=
 (¬ (H.right ∧ E.validB s = true) ∧ r = .tup [.nils, .int .i64 2]) ∨
 (H.right ∧ E.validB s = true ∧ ¬ rOk (curs (obs H H.ns)) rs s ∧ r = .tup [.nils, .int .i64 10]) ∨
 (H.right ∧ E.validB s = true ∧ rOk (curs (obs H H.ns)) rs s ∧ ∃ v L, r = .tup [v, .int .i64 0] ∧ Wd M v L ∧ L.Pairwise (· < ·) ∧ L.length ≤ 2048 ∧ ∀ a, a ∈ L ↔ Rcb rs (nxtS H.a s) a)
theorem ref_Reach_spec {m : Mem} {aw uw sv tv rv : V} {va vm : Nat → V} {H : HeapA} {rs : List Nat} {s : List E.Slot} (h : HpRd m aw uw sv va vm H) (hrs : Nus m rv rs) (hrl : rs.length < 4611686018427387904) (hs : Sl m tv 3 (E.encs s)) (hsl : s.length < 5864062014806) (hN : ∀ q, q ∈ s → ∃ a b : Nat, q.key = a ∧ q.val = b) :
  C S n_ref11_Reach [.agg (heapV H aw uw sv), rv, .agg [tv]] m (fun r m' => ∃ g, m' = m ++ g ∧ rReachR H s rs m' r) := by
 have A := h.a.ar.2.1
 have B := h.u.ar.2.1
 have D := h.s.s.ar.2.1
 have A1 := hrs.ar.2.1
 have tc := hs.cell
 have hs' := PLift.up hs
 have hrs' := PLift.up hrs
 have hN' := PLift.up hN
 obtain ⟨Q, hQ⟩ : ∃ Q : V → Mem → Prop, Q = fun r m' => ∃ g, m' = m ++ g ∧ rReachR H s rs m' r := ⟨_, rfl⟩
 rw [← hQ]
 have bad2 : PLift (¬ (H.right ∧ E.validB s = true) → ∀ g, Q (.tup [.nils, .int .i64 2]) (m ++ g)) := ⟨fun hn g => by rw [hQ]; exact ⟨_, rfl, .inl ⟨hn, rfl⟩⟩⟩
 have bad10 : PLift (H.right → E.validB s = true → ¬ rOk (curs (obs H H.ns)) rs s → ∀ g, Q (.tup [.nils, .int .i64 10]) (m ++ g)) := ⟨fun h1 h2 hn g => by rw [hQ]; exact ⟨_, rfl, .inr (.inl ⟨h1, h2, hn, rfl⟩)⟩⟩
 have good : PLift (H.right → E.validB s = true → rOk (curs (obs H H.ns)) rs s → ∀ v L g, Wd (m ++ g) v L → L.Pairwise (· < ·) → L.length ≤ 2048 → (∀ a, a ∈ L ↔ Rcb rs (nxtS H.a s) a) → Q (.tup [v, .int .i64 0]) (m ++ g)) := ⟨fun h1 h2 h3 v L g a1 a2 a3 a4 => by
  rw [hQ]; exact ⟨_, rfl, .inr (.inr ⟨h1, h2, h3, v, L, rfl, a1, a2, a3, a4⟩)⟩⟩
 clear hs hrs hN hQ
 refine fn rfl ?_
 refine (ref_Objects_spec h.app).mono ?_
 rintro _ _ (⟨hR, g1, ov, rfl, rfl, hG⟩ | ⟨hn, rfl, ⟨g1, rfl⟩⟩)
 case inr =>
  have no := PLift.up (bad2.down fun h => hn h.1)
  clear hn
  refine am ?_
  exact no.down _
 have hcl : (curs (obs H H.ns)).length ≤ 2048 := Nat.le_trans curs_len (obs_small hR.1)
 have hcur' := PLift.up (fun a ha => HeapA.right.cur hR h.wa (a := a) ha)
 have hR' := PLift.up hR
 have oc := hG.cell
 have oX : Nus (m ++ .cells true [heapV H aw uw sv] :: .cells true [[tv]] :: g1) ov (curs (obs H H.ns)) := by
  have := Gw.sl (G := []) (A := m ++ [.cells true [heapV H aw uw sv], .cells true [[tv]]]) hG.cast
  refine Nus.of ?_
  simpa only [List.append_assoc, List.cons_append, List.nil_append, List.append_nil] using this
 have oX' := PLift.up oX
 clear hG oX hR
 refine am ?_
 refine (E.refCheck_spec hs'.down.app (by omega)).mono ?_
 rintro _ _ ⟨rfl, ⟨g2, rfl⟩⟩
 by_cases hval : E.validB s = true
 case neg =>
  rw [if_neg hval]
  have no := PLift.up (bad2.down fun h => hval h.2)
  clear hval
  refine am ?_
  exact no.down _
 rw [if_pos hval]
 have hval' := PLift.up hval
 clear hval
 obtain ⟨cs, ecs⟩ : ∃ cs, curs (obs H H.ns) = cs := ⟨_, rfl⟩
 have ecs' := PLift.up ecs
 rw [ecs] at hcl oX' hcur' bad10 good
 have bad10' := PLift.up (bad10.down hR'.down hval'.down)
 have good' := PLift.up (good.down hR'.down hval'.down)
 clear bad10 good bad2 ecs
 have ra := hrs'.down.ar.1
 refine am ?_
 obtain ⟨X, eX⟩ : ∃ X, m ++ .cells true [heapV H aw uw sv] :: .cells true [[tv]] :: (g1 ++ g2) = X := ⟨_, rfl⟩
 have eX' := PLift.up eX
 have fh : X[m.length]? = some (.cells true [heapV H aw uw sv]) := by rw [← eX, get_off0]; rfl
 have ft : X[m.length + 1]? = some (.cells true [[tv]]) := by rw [← eX, get_off]; rfl
 have rX : Nus X rv rs := by rw [← eX]; exact hrs'.down.app
 have hX : HpRd X aw uw sv va vm H := by rw [← eX]; exact h.app
 have sX : Sl X tv 3 (E.encs s) := by rw [← eX]; exact hs'.down.app
 have oX : Nus X ov cs := by
  rw [← eX]
  have := oX'.down.app (g := g2)
  simpa only [List.append_assoc, List.cons_append] using this
 rw [eX]
 have fh' := PLift.up (fun G : Mem => getElem?_grow (g := G) fh)
 have ft' := PLift.up (fun G : Mem => getElem?_grow (g := G) ft)
 have rX' := PLift.up rX
 have hX' := PLift.up hX
 have sX' := PLift.up sX
 have oX2 := PLift.up oX
 have bx10 : PLift (¬ rOk cs rs s → ∀ G, Q (.tup [.nils, .int .i64 10]) (X ++ G)) := ⟨fun hn G => by rw [← eX, List.append_assoc]; exact bad10'.down hn _⟩
 have gx : PLift (rOk cs rs s → ∀ v L G, Wd (X ++ G) v L → L.Pairwise (· < ·) → L.length ≤ 2048 → (∀ a, a ∈ L ↔ Rcb rs (nxtS H.a s) a) → Q (.tup [v, .int .i64 0]) (X ++ G)) := ⟨fun h1 v L G a1 a2 a3 a4 => by
  rw [← eX, List.append_assoc] at a1 ⊢; exact good'.down h1 v L _ a1 a2 a3 a4⟩
 clear fh ft rX hX sX oX oX' eX ra hs' hrs' bad10' good' eX'
 refine range (α := V × List Nat) rs.length (fun x => [(3, .ptr m.length 0 0), (5, .ptr (m.length + 1) 0 0), (8, ov), (27, rv), (10, x.1)]) (fun k x M => (∃ G, M = X ++ G) ∧ Wd M x.1 x.2 ∧ Ot cs [] x.2 (fun y => ∃ j, j < k ∧ nx rs j = y) ∧ ∀ j, j < k → nx rs j = 0 ∨ nx rs j ∈ cs) (.nils, []) ⟨⟨[], by simp⟩, ⟨⟨rfl, rfl⟩, trivial⟩, ⟨List.Pairwise.nil, fun x h => by simp at h, fun x => by constructor; exact .inl; rintro (h | ⟨_, j, hj, _⟩); exact h; omega⟩, fun j hj => absurd hj (Nat.not_lt_zero _)⟩ ?_ ?_
 ·rintro k ⟨w, o⟩ fr _ hk F ⟨⟨G, rfl⟩, hw, ho, hj⟩
  have ra := (rX'.down.app (g := G)).ar
  have hw' := PLift.up hw
  have ho' := PLift.up ho
  have hj' := PLift.up hj
  have wc := hw.cell
  have hol : o.length ≤ cs.length := ho.len
  have nextT : ∀ y, (∃ j, j < k + 1 ∧ nx rs j = y) ↔ ((∃ j, j < k ∧ nx rs j = y) ∨ y = nx rs k) := fun y => by
   constructor
   ·rintro ⟨j, hj, h1⟩
    by_cases e : j = k
    ·subst e; exact .inr h1.symm
    ·exact .inl ⟨j, by omega, h1⟩
   ·rintro (⟨j, hj, h1⟩ | h1)
    ·exact ⟨j, by omega, h1⟩
    ·exact ⟨k, by omega, h1.symm⟩
  have nextT' := PLift.up nextT
  have nextJ : (nx rs k = 0 ∨ nx rs k ∈ cs) → PLift (∀ j, j < k + 1 → nx rs j = 0 ∨ nx rs j ∈ cs) := fun h => ⟨fun j hj2 => by
   by_cases e : j = k
   ·subst e; exact h
   ·exact hj j (by omega)⟩
  have rk := nx_mem hk
  have rk' := PLift.up rk
  clear hw ho hj nextT rk
  by_cases e0 : nx rs k = 0
  ·have c := eq_true (show ((nx rs k : Int) = 0) by omega)
   have nj := nextJ (.inl e0)
   have e0' := PLift.up e0
   clear e0 nextJ
   refine am ?_
   refine (put_wd hw'.down (show o.length < 1000000 by omega)).mono ?_
   rintro r _ ⟨g3, rfl, hr⟩
   simp only [List.append_assoc] at hr ⊢
   have hr' := PLift.up hr
   clear hr
   refine am ?_
   exact ⟨(r, putA o (nx rs k)), byam, ⟨_, rfl⟩, hr'.down, (ho'.down.put (.inl e0'.down)).to fun y => (nextT'.down y).symm, nj.down⟩
  ·have c := eq_false (show ¬ ((nx rs k : Int) = 0) by omega)
   have e0' := PLift.up e0
   clear e0
   refine am ?_
   refine (Has_spec oX2.down.app (by omega)).mono ?_
   rintro _ _ ⟨rfl, rfl⟩
   by_cases hin : nx rs k ∈ cs
   ·rw [decide_eq_true hin]
    have nj := nextJ (.inr hin)
    have hin' := PLift.up hin
    clear hin nextJ
    refine am ?_
    refine (put_wd hw'.down (show o.length < 1000000 by omega)).mono ?_
    rintro r _ ⟨g3, rfl, hr⟩
    simp only [List.append_assoc] at hr ⊢
    have hr' := PLift.up hr
    clear hr
    refine am ?_
    exact ⟨(r, putA o (nx rs k)), byam, ⟨_, rfl⟩, hr'.down, (ho'.down.put (.inr hin'.down)).to fun y => (nextT'.down y).symm, nj.down⟩
   ·rw [decide_eq_false hin]
    have no := PLift.up (bx10.down (fun h => by rcases h.r _ rk'.down with h1 | h1; exact e0'.down h1; exact hin h1) G)
    clear hin nextJ
    refine am ?_
    exact no.down
 rintro ⟨w, o⟩ fr _ F ⟨⟨G, rfl⟩, hw, ho, hroot⟩
 have hw' := PLift.up hw
 have ho' := PLift.up ho
 have hroot' := PLift.up hroot
 have wc := hw.cell
 have ft := ft'.down G
 have sa := (slots_rd (sX'.down.app (g := G))).ar.1
 clear hw ho hroot
 refine am ?_
 clear ft sa
 refine range (α := Unit) s.length (fun _ => [(3, .ptr m.length 0 0), (5, .ptr (m.length + 1) 0 0), (8, ov), (46, tv), (10, w)]) (fun k _ M => (∃ G, M = X ++ G) ∧ Wd M w o ∧ ∀ j, j < k → (sOf s j).st = 1 → ∀ a b : Nat, (sOf s j).key = a → (sOf s j).val = b → a ∈ cs ∧ (b = 0 ∨ b ∈ cs)) () ⟨⟨G, rfl⟩, hw'.down, fun j hj => absurd hj (Nat.not_lt_zero _)⟩ ?_ ?_
 ·rintro k _ fr _ hk F ⟨⟨G, rfl⟩, hw, hj⟩
  have sl := (slots_rd (sX'.down.app (g := G))).ar
  have hw' := PLift.up hw
  have hj' := PLift.up hj
  have wc := hw.cell
  have hx := sOf_mem hk
  obtain ⟨x, ex⟩ : ∃ x, sOf s k = x := ⟨_, rfl⟩
  have ex' := PLift.up ex
  rw [ex] at hx
  have hx' := PLift.up hx
  have en : E.enc x = [.int .u8 x.st, .int .u64 x.key, .int .u64 x.val] := rfl
  have hwx : PLift (∀ g, Wd (X ++ (G ++ g)) w o) := ⟨fun g => by rw [← List.append_assoc]; exact hw.app⟩
  have step : (x.st = 1 → ∀ a b : Nat, x.key = a → x.val = b → a ∈ cs ∧ (b = 0 ∨ b ∈ cs)) → PLift (∀ j, j < k + 1 → (sOf s j).st = 1 → ∀ a b : Nat, (sOf s j).key = a → (sOf s j).val = b → a ∈ cs ∧ (b = 0 ∨ b ∈ cs)) := fun h => ⟨fun j hj2 => by
   by_cases e : j = k
   ·subst e; rw [ex]; exact h
   ·exact hj j (by omega)⟩
  obtain ⟨a, b, ea, eb⟩ := hN'.down x hx
  clear hw hj hx
  by_cases h1 : x.st = 1
  case neg =>
   have c1 := eq_false h1
   have st := step fun h => absurd h h1
   clear h1 step ea eb
   refine into ?_
   exact ⟨(), byam, ⟨_, rfl⟩, hwx.down _, st.down⟩
  have bad : ¬ (a ∈ cs ∧ (b = 0 ∨ b ∈ cs)) → PLift (∀ G, Q (.tup [.nils, .int .i64 10]) (X ++ G)) := fun hn => ⟨bx10.down fun h => hn (h.s x hx'.down h1 a b ea eb)⟩
  have okk : a ∈ cs ∧ (b = 0 ∨ b ∈ cs) → PLift (∀ j, j < k + 1 → (sOf s j).st = 1 → ∀ a b : Nat, (sOf s j).key = a → (sOf s j).val = b → a ∈ cs ∧ (b = 0 ∨ b ∈ cs)) := fun h => step fun _ a' b' e1 e2 => by
   have h1 : a = a' := by omega
   have h2 : b = b' := by omega
   subst h1 h2
   exact h
  rw [h1, ea, eb] at en
  clear h1 step ea eb
  have bad' := PLift.up bad
  have okk' := PLift.up okk
  clear bad okk
  refine into ?_
  refine (Has_spec (a := a) oX2.down.app (by omega)).mono ?_
  rintro _ _ ⟨rfl, rfl⟩
  by_cases ha : a ∈ cs
  case neg =>
   rw [decide_eq_false ha]
   have no := bad'.down fun h => ha h.1
   clear ha
   refine am ?_
   exact no.down _
  rw [decide_eq_true ha]
  by_cases hb0 : b = 0
  ·have c := eq_true (show ((b : Int) = 0) by omega)
   have st := okk'.down ⟨ha, .inl hb0⟩
   clear hb0 ha
   refine am ?_
   exact ⟨(), byam, ⟨_, rfl⟩, hwx.down _, st.down⟩
  have c := eq_false (show ¬ ((b : Int) = 0) by omega)
  have ha' := PLift.up ha
  have hb0' := PLift.up hb0
  clear ha hb0
  refine am ?_
  refine (Has_spec (a := b) oX2.down.app (by omega)).mono ?_
  rintro _ _ ⟨rfl, rfl⟩
  by_cases hb : b ∈ cs
  case neg =>
   rw [decide_eq_false hb]
   have no := bad'.down fun h => by rcases h.2 with h | h; exact hb0'.down h; exact hb h
   clear hb
   refine am ?_
   exact no.down _
  rw [decide_eq_true hb]
  have st := okk'.down ⟨ha'.down, .inr hb⟩
  clear hb
  refine am ?_
  exact ⟨(), byam, ⟨_, rfl⟩, hwx.down _, st.down⟩
 rintro _ fr _ F ⟨⟨G, rfl⟩, hw, hsl2⟩
 have hok : rOk cs rs s := ⟨fun a ha => by obtain ⟨i, hi, rfl⟩ := nx_of ha; exact hroot'.down i hi, fun q hq h1 a b e1 e2 => by
  obtain ⟨j, hj, e⟩ := List.getElem_of_mem hq
  have e' : sOf s j = q := by unfold sOf; rw [List.getD_eq_getElem?_getD, List.getElem?_eq_getElem hj]; exact e
  exact hsl2 j hj (by rw [e']; exact h1) a b (by rw [e']; exact e1) (by rw [e']; exact e2)⟩
 have hN2 : PLift (∀ q, q ∈ s → q.st = 1 → ∃ a b : Nat, q.key = a ∧ q.val = b ∧ (b = 0 ∨ b ∈ cs)) := ⟨fun q hq h1 => by
  obtain ⟨a, b, e1, e2⟩ := hN'.down q hq
  exact ⟨a, b, e1, e2, (hok.s q hq h1 a b e1 e2).2⟩⟩
 have gx' := PLift.up (gx.down hok)
 have wc0 := hw.cell
 let I := fun (d : Nat) (fr : Frame) (M : Mem) => ∃ (w : V) (o : List Nat) (G : Mem), d + o.length = 2049 ∧ M = X ++ G ∧ Wd M w o ∧ o.Pairwise (· < ·) ∧ (∀ x, x ∈ o → x ∈ cs) ∧ (∀ x, x ∈ o → Rcb rs (nxtS H.a s) x) ∧ (∀ x, x ∈ rs → x ≠ 0 → x ∈ o) ∧ Has fr [(3, .ptr m.length 0 0), (5, .ptr (m.length + 1) 0 0), (10, w)]
 have hol0 : o.length ≤ cs.length := ho'.down.len
 have hrc0 : ∀ x, x ∈ o → Rcb rs (nxtS H.a s) x := fun x hx => by
  rcases (ho'.down.mem x).1 hx with h1 | ⟨h1, j, hj, rfl⟩
  ·simp at h1
  ·exact .root (nx_mem hj) h1
 have hrt0 : ∀ x, x ∈ rs → x ≠ 0 → x ∈ o := fun x hx hne => by
  obtain ⟨j, hj, rfl⟩ := nx_of hx
  exact (ho'.down.mem _).2 (.inr ⟨hne, j, hj, rfl⟩)
 have hso0 := ho'.down.so
 have hsub0 := ho'.down.sub
 have H0 := PLift.up (And.intro hrc0 (And.intro hrt0 (And.intro hso0 (And.intro hsub0 hw))))
 clear hw hsl2 hok hw' ho' wc hroot' hrc0 hrt0 hso0 hsub0
 refine am ?_
 refine W_loop I ?_ (2049 - o.length) ⟨w, o, G, by omega, rfl, H0.down.2.2.2.2, H0.down.2.2.1, H0.down.2.2.2.1, H0.down.1, H0.down.2.1, byam⟩
 clear H0 wc0 hol0
 rintro d fr _ ⟨w, o, G, hd, rfl, hw, hso, hsub, hrc, hrt, F⟩
 have hol : o.length ≤ cs.length := nodup_sub (rise_nodup hso) hsub
 have wc := hw.cell
 have fh := fh'.down G
 have ft := ft'.down G
 have WS := PLift.up (wider_spec (hX'.down.app (g := G)) hR'.down ecs'.down hcl hw hso hsub (sX'.down.app (g := G)) hsl hN2.down)
 have hw' := PLift.up hw
 have hso' := PLift.up hso
 have hsub' := PLift.up hsub
 have hrc' := PLift.up hrc
 have hrt' := PLift.up hrt
 clear hw hso hsub hrc hrt
 refine into ?_
 refine WS.down.mono ?_
 rintro r _ ⟨g, rfl, o2, hw2, ho2⟩
 simp only [List.append_assoc] at hw2 ⊢
 have wl : asLen w = some (.int .i64 (o.length : Nat)) := hw'.down.n.ar.1
 have rl : asLen r = some (.int .i64 (o2.length : Nat)) := hw2.n.ar.1
 have rc := hw2.cell
 have hw2' := PLift.up hw2
 have ho2' := PLift.up ho2
 have hol2 : o2.length ≤ cs.length := ho2.len
 have hge : o.length ≤ o2.length := nodup_sub (rise_nodup hso'.down) fun x hx => (ho2.mem x).2 (.inl hx)
 clear hw2 ho2 WS
 by_cases he : o2.length = o.length
 ·have c := eq_true (show ((o2.length : Int) = (o.length : Int)) by omega)
  have cl : ∀ x, x ∈ o2 → x ∈ o := fun x hx => nodup_all (rise_nodup hso'.down) (fun y hy => (ho2'.down.mem y).2 (.inl hy)) (by omega) hx
  have done : PLift (∀ G, Wd (X ++ G) w o → Q (.tup [w, .int .i64 0]) (X ++ G)) := ⟨fun G hwG => gx'.down w o G hwG hso'.down (by omega) fun a => by
   constructor
   ·exact hrc'.down a
   ·intro k
    induction k with
    | root h1 h2 => exact hrt'.down _ h1 h2
    | step _ h2 h3 ih => exact cl _ ((ho2'.down.mem _).2 (.inr ⟨h3, _, ih, h2⟩))⟩
  have hwG := PLift.up (show Wd (X ++ (G ++ g)) w o by rw [← List.append_assoc]; exact hw'.down.app)
  clear he cl
  refine am ?_
  exact done.down _ hwG.down
 ·have c := eq_false (show ¬ ((o2.length : Int) = (o.length : Int)) by omega)
  have he' := PLift.up he
  clear he
  refine am ?_
  refine ⟨2049 - o2.length, by have := he'.down; omega, r, o2, G ++ g, by omega, rfl, hw2'.down, ho2'.down.so, ho2'.down.sub, fun x hx => ?_, fun x hx hne => (ho2'.down.mem x).2 (.inl (hrt'.down x hx hne)), byam⟩
  rcases (ho2'.down.mem x).1 hx with h1 | ⟨h1, y, hy, h2⟩
  ·exact hrc'.down x h1
  ·exact .step (hrc'.down y hy) h2 h1
end Go.AM.G
set_option maxRecDepth 100000
namespace Go.AM.G
open Go Go.AM
theorem ref_one_spec {m : Mem} {x : Spc} : C S n_ref08_one [.agg [.int .u64 (x.ad : Nat), .int .u8 (x.kd : Nat), .int .u64 (x.tg : Nat)]] m (fun r m' => r = .bool (oneP x) ∧ Grow m m') := by
 by_cases h1 : 0 < x.ad
 ·have c1 : ((0 : Int) < (x.ad : Int)) = True := eq_true (by omega)
  by_cases h2 : 0 < x.kd
  ·have c2 : ((0 : Int) < (x.kd : Int)) = True := eq_true (by omega)
   by_cases h3 : x.kd < 3
   ·have c3 : ((x.kd : Int) < 3) = True := eq_true (by omega)
    have e : oneP x = true := by simp [oneP, h1, h2, h3]
    clear h1 h2 h3
    refine fn rfl ?_
    exact ⟨_, rfl⟩
   ·have c3 : ((x.kd : Int) < 3) = False := eq_false (by omega)
    have e : oneP x = false := by simp [oneP, h3]
    clear h1 h2 h3
    refine fn rfl ?_
    exact ⟨_, rfl⟩
  ·have c2 : ((0 : Int) < (x.kd : Int)) = False := eq_false (by omega)
   have e : oneP x = false := by simp [oneP, h2]
   clear h1 h2
   refine fn rfl ?_
   exact ⟨_, rfl⟩
 ·have c1 : ((0 : Int) < (x.ad : Int)) = False := eq_false (by omega)
  have e : oneP x = false := by simp [oneP, h1]
  clear h1
  refine fn rfl ?_
  exact ⟨_, rfl⟩
theorem ref08_Check_spec {m : Mem} {v : V} {l : List Spc} (hv : Sl m v 3 (l.map spcV)) (hcap : capOk v) (hl : l.length < 5864062014806) : C S n_ref08_Check [v] m (fun r m' => okE (spRight l) r ∧ Grow m m') := by
 have A := (Sps.of hv).ar
 have hv' := PLift.up hv
 have hcc := PLift.up hcap
 obtain ⟨Q, hQ⟩ : ∃ Q : V → Mem → Prop, Q = fun r m' => okE (spRight l) r ∧ Grow m m' := ⟨_, rfl⟩
 rw [← hQ]
 have bad' : PLift (∀ g, ¬ spRight l → Q (.int .i64 2) (m ++ g)) := ⟨fun g h => by rw [hQ]; exact ⟨.inr ⟨h, rfl⟩, _, rfl⟩⟩
 have good' : PLift (∀ g, spRight l → Q (.int .i64 0) (m ++ g)) := ⟨fun g h => by rw [hQ]; exact ⟨.inl ⟨h, rfl⟩, _, rfl⟩⟩
 clear hv hcap hQ
 by_cases h64 : (64 : Int) < (l.length : Int)
 ·have c := eq_true h64
  have done : PLift (Q (.int .i64 2) m) := ⟨by have := bad'.down [] (fun h => by have := h.1; omega); rwa [List.append_nil] at this⟩
  clear h64
  refine fn rfl ?_
  exact done.down
 have c := eq_false h64
 have h64' : l.length ≤ 64 := by omega
 clear h64
 refine fn rfl ?_
 refine range (α := Unit) l.length (fun _ => [(0, v), (10, v)]) (fun k _ M => (∃ g, M = m ++ g) ∧ ∀ i, i < k → oneP (spOf l i) = true ∧ (0 < i → (spOf l (i - 1)).ad ≤ (spOf l i).ad) ∧ ¬ ((spOf l i).kd = 1 ∧ (l.take i).any (finP (spOf l i).ad) = true)) () ⟨⟨[], by simp⟩, fun i h => absurd h (Nat.not_lt_zero _)⟩ ?_ ?_
 ·rintro k _ fr _ hk F ⟨⟨g, rfl⟩, hI⟩
  have A := ((Sps.of hv'.down).app (g := g)).ar
  have hI' := PLift.up hI
  obtain ⟨x, ex⟩ : ∃ x, spOf l k = x := ⟨_, rfl⟩
  have ex' := PLift.up ex
  have en : spcV x = [.int .u64 (x.ad : Nat), .int .u8 (x.kd : Nat), .int .u64 (x.tg : Nat)] := rfl
  obtain ⟨y, hy, hyS⟩ := slice_toZ hv'.down hcc.down (n := k) (by simpa using Nat.le_of_lt hk)
  rw [← List.map_take] at hyS
  have hyS' := PLift.up hyS
  have ya := (Sps.of hyS).ar.1
  have tl : (l.take k).length = k := by rw [List.length_take]; omega
  rw [tl] at ya
  have no : ∀ {p : Prop}, (spRight l → p) → ¬ p → PLift (∀ g, Q (.int .i64 2) (m ++ g)) := fun h1 h2 => ⟨fun g => bad'.down g fun hr => h2 (h1 hr)⟩
  have on : ∀ {α β : Type} {f : α → β}, Option.map f none = none := rfl
  have os : ∀ {α β : Type} {f : α → β} {x : α}, Option.map f (some x) = some (f x) := rfl
  clear hI hyS
  refine am ?_
  refine (ref_one_spec (x := x)).mono ?_
  rintro _ _ ⟨rfl, ⟨g2, rfl⟩⟩
  cases h1 : oneP x with
  | false =>
   have no' := no (p := oneP x = true) (fun hr => by have := (hr.2.2 k hk).1; rwa [ex'.down] at this) (by rw [h1]; decide)
   clear ex no
   refine am ?_
   exact no'.down _
  | true =>
   have ny := PLift.up (fun G => (Sps.of hyS'.down).app (g := G))
   cases k with
   | zero =>
    have c0 : ((0 : Int) < ((0 : Nat) : Int)) = False := eq_false (by decide)
    have c00 : ((0 : Int) < 0) = False := eq_false (by decide)
    have hy0 : sliceV v none (some (.int .i64 0)) none = some y := hy
    have ya0 : asLen y = some (.int .i64 0) := ya
    refine am ?_
    refine range (α := Unit) 0 (fun _ => [(0, v), (10, v), (11, .int .i64 (l.length : Nat)), (12, .int .i64 ((0 : Nat) : Int)), (37, y)]) (fun _ _ M => ∃ g, M = m ++ g) () ⟨_, rfl⟩ ?_ ?_
    ·rintro k _ fr _ hk F _
     exact absurd hk (Nat.not_lt_zero _)
    ·rintro _ fr _ F ⟨g, rfl⟩
     refine am ?_
     refine ⟨(), byam, ⟨_, rfl⟩, fun i hi => ?_⟩
     obtain rfl : i = 0 := by omega
     rw [ex'.down]
     exact ⟨h1, fun h => absurd h (Nat.lt_irrefl _), fun h => by simp at h⟩
   | succ k =>
   have c0 : ((0 : Int) < ((k + 1 : Nat) : Int)) = True := eq_true (by omega)
   have w1 : IntKind.i64.wrap (((k + 1 : Nat) : Int) - 1) = ((k : Nat) : Int) := (wrap_i64 (by omega) (by omega)).trans (by omega)
   have kl : k < l.length := by omega
   obtain ⟨z, ez⟩ : ∃ z, spOf l k = z := ⟨_, rfl⟩
   have ez' := PLift.up ez
   have enz : spcV z = [.int .u64 (z.ad : Nat), .int .u8 (z.kd : Nat), .int .u64 (z.tg : Nat)] := rfl
   have A2 := ((Sps.of hv'.down).app (g := g ++ .cells true [[.int .u64 (x.ad : Nat), .int .u8 (x.kd : Nat), .int .u64 (x.tg : Nat)]] :: g2)).ar
   by_cases hs : x.ad < z.ad
   ·have c2 : (((x.ad : Nat) : Int) < ((z.ad : Nat) : Int)) = True := eq_true (by omega)
    have no' := no (p := z.ad ≤ x.ad) (fun hr => by have := hr.2.1 (k + 1) (by omega) hk; rwa [Nat.add_sub_cancel, ex'.down, ez'.down] at this) (by omega)
    clear hs ex no
    refine am ?_
    exact no'.down _
   have c2 : (((x.ad : Nat) : Int) < ((z.ad : Nat) : Int)) = False := eq_false (by omega)
   have hs' := PLift.up hs
   have no' := PLift.up (no (p := ¬ (x.kd = 1 ∧ (l.take (k + 1)).any (finP x.ad) = true)) (fun hr => by have := (hr.2.2 (k + 1) hk).2; rwa [ex'.down] at this))
   clear hs no ex
   refine am ?_
   clear A2 A
   refine range (α := Unit) (k + 1) (fun _ => [(0, v), (4, .ptr (m.length + g.length) 0 0), (10, v), (11, .int .i64 (l.length : Nat)), (12, .int .i64 ((k + 1 : Nat) : Int)), (37, y)]) (fun i _ M => (∃ G, M = m ++ (g ++ .cells true [[.int .u64 (x.ad : Nat), .int .u8 (x.kd : Nat), .int .u64 (x.tg : Nat)]] :: G)) ∧ ∀ j, j < i → ¬ (x.kd = 1 ∧ finP x.ad (spOf l j) = true)) () ⟨⟨_, rfl⟩, fun j hj => absurd hj (Nat.not_lt_zero _)⟩ ?_ ?_
   ·rintro i _ fr _ hi F ⟨⟨G, rfl⟩, hj⟩
    have ya := (ny.down (g ++ .cells true [[.int .u64 (x.ad : Nat), .int .u8 (x.kd : Nat), .int .u64 (x.tg : Nat)]] :: G)).ar
    have hti : spOf (l.take (k + 1)) i = spOf l i := by
     unfold spOf
     rw [List.getD_eq_getElem?_getD, List.getD_eq_getElem?_getD, List.getElem?_take, if_pos hi]
    obtain ⟨t, et⟩ : ∃ t, spOf l i = t := ⟨_, rfl⟩
    have et' := PLift.up et
    rw [et] at hti
    have ent : spcV t = [.int .u64 (t.ad : Nat), .int .u8 (t.kd : Nat), .int .u64 (t.tg : Nat)] := rfl
    rw [tl] at ya
    have hj' := PLift.up hj
    have stp : ¬ (x.kd = 1 ∧ finP x.ad t = true) → PLift (∀ j, j < i + 1 → ¬ (x.kd = 1 ∧ finP x.ad (spOf l j) = true)) := fun h => ⟨fun j hj2 => by
     by_cases e : j = i
     ·subst e; rw [et'.down]; exact h
     ·exact hj'.down j (by omega)⟩
    have hmem : PLift (t ∈ l.take (k + 1)) := ⟨by
     have := spOf_mem (l := l.take (k + 1)) (i := i) (by rw [List.length_take]; omega)
     rwa [hti] at this⟩
    clear hj et
    by_cases k1 : x.kd = 1
    case neg =>
     have c3 : ((x.kd : Int) = 1) = False := eq_false (by omega)
     have st := stp fun h => k1 h.1
     clear k1 stp
     refine am ?_
     exact ⟨(), byam, ⟨_, rfl⟩, st.down⟩
    have c3 : ((x.kd : Int) = 1) = True := eq_true (by omega)
    by_cases k2 : t.kd = 1
    case neg =>
     have c4 : ((t.kd : Int) = 1) = False := eq_false (by omega)
     have st := stp fun h => by have := h.2; simp [finP, k2] at this
     clear k1 k2 stp
     refine am ?_
     exact ⟨(), byam, ⟨_, rfl⟩, st.down⟩
    have c4 : ((t.kd : Int) = 1) = True := eq_true (by omega)
    by_cases k3 : x.ad = t.ad
    case neg =>
     have c5 : ((x.ad : Int) = (t.ad : Int)) = False := eq_false (by omega)
     have st := stp fun h => by have := h.2; simp [finP] at this; exact k3 this.1.symm
     clear k1 k2 k3 stp
     refine am ?_
     exact ⟨(), byam, ⟨_, rfl⟩, st.down⟩
    have c5 : ((x.ad : Int) = (t.ad : Int)) = True := eq_true (by omega)
    have bad2 := no'.down fun h => h ⟨k1, List.any_eq_true.2 ⟨t, hmem.down, by simp [finP, k2, k3]⟩⟩
    clear k1 k2 k3 stp
    refine am ?_
    exact bad2.down _
   ·rintro _ fr _ F ⟨⟨G, rfl⟩, hj⟩
    have hj' := PLift.up hj
    clear hj
    refine am ?_
    refine ⟨(), byam, ⟨_, rfl⟩, fun i hi => ?_⟩
    by_cases e : i = k + 1
    ·subst e
     rw [ex'.down, Nat.add_sub_cancel, ez'.down]
     refine ⟨h1, fun _ => by have := hs'.down; omega, fun h => ?_⟩
     obtain ⟨t, ht, h2⟩ := List.any_eq_true.1 h.2
     obtain ⟨j, hjl, ej⟩ := List.getElem_of_mem ht
     have hjl' : j < k + 1 := by rw [List.length_take] at hjl; omega
     refine hj'.down j hjl' ⟨h.1, ?_⟩
     rw [show spOf l j = t by unfold spOf; rw [List.getD_eq_getElem?_getD, List.getElem?_eq_getElem (by omega)]; rw [← ej, List.getElem_take]; rfl]
     exact h2
    ·exact hI'.down i (by omega)
 ·rintro _ fr _ F ⟨⟨g, rfl⟩, hI⟩
  have done := PLift.up (good'.down g ⟨h64', fun i h0 hi => (hI i hi).2.1 h0, fun i hi => ⟨(hI i hi).1, (hI i hi).2.2⟩⟩)
  clear hI
  refine am ?_
  exact done.down
end Go.AM.G
set_option maxRecDepth 100000
namespace Go.AM.G
open Go Go.AM
theorem box_set {A G : Mem} {v : V} {L : List Nat} {el el' : List V} (h : Sl (A ++ .cells true [el] :: G) v 1 (u64l L)) (hn : el.length ≠ 1) : Sl (A ++ .cells true [el'] :: G) v 1 (u64l L) := by
 rcases h.cases with ⟨rfl, he⟩ | ⟨b, i, len, cap, ex, rfl⟩
 ·exact ⟨by rw [he]; rfl, rfl⟩
 ·refine ⟨?_, h.2⟩
  have h1 := h.1
  simp only [elems] at h1 ⊢
  by_cases hb : b = A.length
  ·subst hb
   rw [get_off0] at h1 ⊢
   simp only [List.getElem?_cons_zero] at h1 ⊢
   split at h1
   case isFalse => cases h1
   rename_i hl
   simp only [List.length_cons, List.length_nil] at hl
   rw [if_pos (by simpa using hl)]
   have h2 := Option.some.inj h1
   have h0 : len = 0 := by
    rcases Nat.eq_zero_or_pos len with h0 | h0
    ·exact h0
    ·exfalso
     have hi : i = 0 := by omega
     have hl1 : len = 1 := by omega
     subst hi hl1
     simp only [List.drop_zero, List.take_succ_cons, List.take_zero] at h2
     cases L with
     | nil => simp [u64l] at h2
     | cons a r =>
      simp only [u64l, List.map_cons, List.cons.injEq] at h2
      rw [h2.1] at hn
      exact hn rfl
   subst h0
   rw [List.take_zero] at h2 ⊢
   rw [h2]
  ·have e : (A ++ Blk.cells true [el'] :: G)[b]? = (A ++ Blk.cells true [el] :: G)[b]? := by
    by_cases hlt : b < A.length
    ·rw [List.getElem?_append_left hlt, List.getElem?_append_left hlt]
    ·rw [List.getElem?_append_right (by omega), List.getElem?_append_right (by omega)]
     obtain ⟨k, hk⟩ : ∃ k, b - A.length = k + 1 := ⟨b - A.length - 1, by omega⟩
     rw [hk, List.getElem?_cons_succ, List.getElem?_cons_succ]
   rw [e]
   exact h1
theorem Wd.box {A G : Mem} {v : V} {L : List Nat} {el el' : List V} (h : Wd (A ++ .cells true [el] :: G) v L) (hn : el.length ≠ 1) : Wd (A ++ .cells true [el'] :: G) v L := ⟨box_set h.1 hn, h.2⟩
theorem Gw.kp {len : Nat} {g g' : Mem} {v : V} {z : Nat} {els : List (List V)} (h : Gw len g v z els) (hk : ∀ j, blkOf v = some (len + j) → g'[j]? = g[j]?) : Gw len g' v z els := by
 rcases h with h | ⟨j, h1, h2⟩
 ·exact .inl h
 ·exact .inr ⟨j, h1, by rw [hk j (by rw [h1]; rfl)]; exact h2⟩
theorem Gx.kp {len : Nat} {g g' : Mem} {v : V} {els : List (List V)} (h : Gx len g v els) (hk : ∀ j, blkOf v = some (len + j) → g'[j]? = g[j]?) : Gx len g' v els := by
 rcases h with h | ⟨e, j, own, es, h1, h2⟩
 ·exact .inl (h.kp hk)
 ·exact .inr ⟨e, j, own, es, h1, by rw [hk j (by rw [h1]; rfl)]; exact h2⟩
theorem Gw.bk {len : Nat} {g : Mem} {v : V} {z : Nat} {els : List (List V)} (h : Gw len g v z els) {b : Nat} (hb : blkOf v = some b) : len ≤ b ∧ b < len + g.length := by
 rcases h with ⟨rfl, _⟩ | ⟨j, rfl, h2⟩
 ·cases hb
 ·cases hb
  have := (List.getElem?_eq_some_iff.1 h2).1
  omega
theorem Gx.bk {len : Nat} {g : Mem} {v : V} {els : List (List V)} (h : Gx len g v els) {b : Nat} (hb : blkOf v = some b) : len ≤ b ∧ b < len + g.length := by
 rcases h with h | ⟨e, j, own, es, rfl, h2⟩
 ·exact h.bk hb
 ·cases hb
  have := (List.getElem?_eq_some_iff.1 h2).1
  omega
theorem Gx.app' {len : Nat} {g G : Mem} {v : V} {els : List (List V)} (h : Gx len g v els) : Gx len (g ++ G) v els := by
 rcases h with h | ⟨e, j, own, es, h1, h2⟩
 ·exact .inl h.app
 ·exact .inr ⟨e, j, own, es, h1, getElem?_grow h2⟩
theorem app_new {m : Mem} {v : V} {rs : List Nat} (hv : Nus m v rs) (hn : rs.length < 17592186044417) : ∃ r g, appendV (m ++ [.cells true []]) [.int .u64 0] 8 (.slice m.length 0 0 0 true 1) v = some (r, m ++ g) ∧ Gx m.length g r (u64l rs) := by
 have hlen : (u64l rs).length = rs.length := by simp
 rcases hv with hv | ⟨e, rfl⟩
 ·have he : elems (m ++ [.cells true []]) v = some (u64l rs) := by
   have := (hv.app (g := [.cells true []])).1
   rw [this]
   congr 1
   exact (map_nx (f := fun p : Nat => [V.int .u64 (p : Int)]) (l := rs)).symm
  have hy := elemsY_of he
  have hz : zOk v 1 = true := hv.2
  by_cases h0 : rs = []
  ·subst h0
   refine ⟨.slice m.length 0 0 0 true 1, [.cells true []], ?_, .inr ⟨rfl, 0, true, [], rfl, rfl⟩⟩
   unfold appendV
   rw [hy]
   simp [hz, u64l]
  ·have hpos : 0 < rs.length := List.length_pos_iff.2 h0
   refine ⟨.slice (m.length + 1) 0 rs.length rs.length false 1, [.cells true []] ++ [.cells true (u64l rs)], ?_, .inl (.inr ⟨1, by rw [hlen], rfl⟩)⟩
   unfold appendV
   rw [hy]
   have e1 : (u64l rs).isEmpty = false := by cases rs with
    | nil => exact absurd rfl h0
    | cons a l => rfl
   have e3 : roomy rs.length 8 = true := by simp [roomy]; omega
   have e4 : ¬ rs.length = 0 := by omega
   simp [hz, e1, hlen, e3, e4, List.append_assoc]
 ·have : rs = [] := by
   cases rs with
   | nil => rfl
   | cons a l => simp at e
  subst this
  exact ⟨.slice m.length 0 0 0 true 1, [.cells true []], by simp [appendV, elemsY, zOk], .inr ⟨rfl, 0, true, [], rfl, rfl⟩⟩
end Go.AM.G
set_option maxRecDepth 100000
namespace Go.AM.G
open Go Go.AM
structure FrOk (H : HeapA) (s : List E.Slot) (rs : List Nat) (l : List Spc) : Prop where
 hR : H.right
 ok : E.validB s = true
 sp : spRight l
 m : rOk (curs (obs H H.ns)) rs s
 a : ∀ x, x ∈ l → x.ad ∈ curs (obs H H.ns)
def rFateR (H : HeapA) (s : List E.Slot) (rs : List Nat) (l : List Spc) (M : Mem) (r : V) : Prop :=
 (¬ (H.right ∧ E.validB s = true ∧ spRight l) ∧ r = .tup [nil4, .int .i64 2]) ∨
 (H.right ∧ E.validB s = true ∧ spRight l ∧ ¬ FrOk H s rs l ∧ r = .tup [nil4, .int .i64 10]) ∨
 (FrOk H s rs l ∧ ∃ lv kv fv cv L Kp, r = .tup [.agg [lv, kv, fv, cv], .int .i64 0] ∧ Nus M lv L ∧ Nus M kv Kp ∧ Sl M fv 3 ((finL l L).map spcV) ∧ Sl M cv 3 ((keep (someP 2 Kp) l).map spcV) ∧
  L.Pairwise (· < ·) ∧ Kp.Pairwise (· < ·) ∧ L.length ≤ 2048 ∧ Kp.length ≤ 2048 ∧ (∀ a, a ∈ L ↔ Rcb rs (nxtS H.a s) a) ∧ ∀ a, a ∈ Kp ↔ Rcb (moreL rs (finL l L)) (nxtS H.a s) a)
theorem someP_no' {k : Nat} {L : List Nat} {l : List Spc} {x : Spc} (h : x ∈ keep (someP k L) l) : x ∈ l := (List.mem_filter.1 h).1
theorem ref_Fate_spec {m : Mem} {aw uw sv tv rv lv : V} {va vm : Nat → V} {H : HeapA} {rs : List Nat} {s : List E.Slot} {l : List Spc} (h : HpRd m aw uw sv va vm H) (hrs : Nus m rv rs) (hrl : rs.length + 64 ≤ 17592186044416) (ht : Sl m tv 3 (E.encs s)) (htl : s.length < 5864062014806) (hN : ∀ q, q ∈ s → ∃ a b : Nat, q.key = a ∧ q.val = b)
  (hs : Sl m lv 3 (l.map spcV)) (hsc : capOk lv) (hsl : l.length < 5864062014806) :
  C S n_ref11_Fate [.agg (heapV H aw uw sv), rv, .agg [tv], lv] m (fun r m' => ∃ g, m' = m ++ g ∧ rFateR H s rs l m' r) := by
 have A := h.a.ar.2.1
 have B := h.u.ar.2.1
 have D := h.s.s.ar.2.1
 have A1 := hrs.ar.2.1
 have tc := ht.cell
 have lc := hs.cell
 have ht' := PLift.up ht
 have hs' := PLift.up hs
 have hsc' := PLift.up hsc
 have hrs' := PLift.up hrs
 have hN' := PLift.up hN
 obtain ⟨Q, hQ⟩ : ∃ Q : V → Mem → Prop, Q = fun r m' => ∃ g, m' = m ++ g ∧ rFateR H s rs l m' r := ⟨_, rfl⟩
 rw [← hQ]
 have bad2 : PLift (¬ (H.right ∧ E.validB s = true ∧ spRight l) → ∀ g, Q (.tup [nil4, .int .i64 2]) (m ++ g)) := ⟨fun hn g => by rw [hQ]; exact ⟨_, rfl, .inl ⟨hn, rfl⟩⟩⟩
 have bad10 : PLift (H.right → E.validB s = true → spRight l → ¬ FrOk H s rs l → ∀ g, Q (.tup [nil4, .int .i64 10]) (m ++ g)) := ⟨fun h1 h2 h3 hn g => by rw [hQ]; exact ⟨_, rfl, .inr (.inl ⟨h1, h2, h3, hn, rfl⟩)⟩⟩
 have good : PLift (FrOk H s rs l → ∀ lv kv fv cv L Kp g, Nus (m ++ g) lv L → Nus (m ++ g) kv Kp → Sl (m ++ g) fv 3 ((finL l L).map spcV) → Sl (m ++ g) cv 3 ((keep (someP 2 Kp) l).map spcV) →
  L.Pairwise (· < ·) → Kp.Pairwise (· < ·) → L.length ≤ 2048 → Kp.length ≤ 2048 → (∀ a, a ∈ L ↔ Rcb rs (nxtS H.a s) a) → (∀ a, a ∈ Kp ↔ Rcb (moreL rs (finL l L)) (nxtS H.a s) a) → Q (.tup [.agg [lv, kv, fv, cv], .int .i64 0]) (m ++ g)) := ⟨fun h0 lv kv fv cv L Kp g a1 a2 a3 a4 a5 a6 a7 a8 a9 a10 => by
   rw [hQ]; exact ⟨_, rfl, .inr (.inr ⟨h0, lv, kv, fv, cv, L, Kp, rfl, a1, a2, a3, a4, a5, a6, a7, a8, a9, a10⟩)⟩⟩
 clear ht hs hsc hrs hN hQ
 refine fn rfl ?_
 refine (ref_Objects_spec h.app).mono ?_
 rintro _ _ (⟨hR, g1, ov, rfl, rfl, hG⟩ | ⟨hn, rfl, ⟨g1, rfl⟩⟩)
 case inr =>
  have no := PLift.up (bad2.down fun h => hn h.1)
  clear hn
  refine am ?_
  exact no.down _
 have hcl : (curs (obs H H.ns)).length ≤ 2048 := Nat.le_trans curs_len (obs_small hR.1)
 have hR' := PLift.up hR
 have oc := hG.cell
 have oS : InS (m.length + 3) g1 ov 1 (u64l (curs (obs H H.ns))) := hG.s.cast
 have oS' := PLift.up oS
 clear hG oS hR
 refine am ?_
 refine (E.refCheck_spec ht'.down.app (by omega)).mono ?_
 rintro _ _ ⟨rfl, ⟨g2, rfl⟩⟩
 by_cases hval : E.validB s = true
 case neg =>
  rw [if_neg hval]
  have no := PLift.up (bad2.down fun h => hval h.2.1)
  clear hval
  refine am ?_
  exact no.down _
 rw [if_pos hval]
 have hval' := PLift.up hval
 clear hval
 refine am ?_
 refine (ref08_Check_spec hs'.down.app hsc'.down hsl).mono ?_
 rintro _ _ ⟨⟨hsp, rfl⟩ | ⟨hsp, rfl⟩, ⟨g3, rfl⟩⟩
 case inr =>
  have no := PLift.up (bad2.down fun h => hsp h.2.2)
  clear hsp
  refine am ?_
  exact no.down _
 have hsp' := PLift.up hsp
 clear hsp
 refine am ?_
 refine (ref_Reach_spec h.app hrs'.down.app (by omega) ht'.down.app htl hN'.down).mono ?_
 rintro _ _ ⟨g4, rfl, ⟨hno, _⟩ | ⟨_, _, hno, rfl⟩ | ⟨_, _, hok, lw, L, rfl, hw, hs5, hl5, hm5⟩⟩
 ·exact absurd ⟨hR'.down, hval'.down⟩ hno
 ·have no := PLift.up (bad10.down hR'.down hval'.down hsp'.down fun h => hno h.m)
  clear hno
  refine am ?_
  exact no.down _
 have hok' := PLift.up hok
 have lwc := hw.cell
 have hw' := PLift.up hw
 have hs5' := PLift.up hs5
 have hm5' := PLift.up hm5
 obtain ⟨cs, ecs⟩ : ∃ cs, curs (obs H H.ns) = cs := ⟨_, rfl⟩
 have ecs' := PLift.up ecs
 rw [ecs] at hcl oS' hok'
 clear hok hw hs5 hm5 ecs bad2
 simp only [List.append_assoc, List.cons_append, List.nil_append] at hw' ⊢
 obtain ⟨Y, eY⟩ : ∃ Y, g1 ++ (g2 ++ (g3 ++ g4)) = Y := ⟨_, rfl⟩
 have oY : PLift (InS (m.length + 3) Y ov 1 (u64l cs)) := ⟨by rw [← eY]; exact oS'.down.app⟩
 have b10 := PLift.up (bad10.down hR'.down hval'.down hsp'.down)
 rw [eY] at hw' ⊢
 clear eY oS' bad10
 obtain ⟨wv, g5, ap, hX⟩ := app_new (hrs'.down.app (g := .cells true [heapV H aw uw sv] :: .cells true [[tv]] :: .cells true [[.nils, .nils, .nils, .nils]] :: (Y ++ [.cells true [[lw, .nils, .nils, .nils]]]))) (by omega)
 simp only [List.append_assoc, List.cons_append, List.nil_append, List.length_append, List.length_cons, List.length_nil, Nat.zero_add, Nat.add_assoc, Nat.reduceAdd] at ap
 have wc := hX.cell
 have hX' := PLift.up hX
 have la := (Sps.of hs'.down).ar.1
 clear hX
 refine am ?_
 have hlen : ∀ f : V, (m ++ Blk.cells true [heapV H aw uw sv] :: Blk.cells true [[tv]] :: Blk.cells true [[.nils, .nils, .nils, .nils]] :: (Y ++ [Blk.cells true [[lw, .nils, f, .nils]]])).length = m.length + (Y.length + 4) := fun f => by simp
 obtain ⟨N, eN⟩ : ∃ N, m.length + (Y.length + 4) = N := ⟨_, rfl⟩
 rw [eN] at hlen
 have hX2 : Gx N g5 wv (u64l rs) := by have := hX'.down; rwa [hlen] at this
 have hOv : ∀ r8 G, Nus (m ++ .cells true [heapV H aw uw sv] :: .cells true [[tv]] :: r8 :: (Y ++ G)) ov cs := fun r8 G => by
  have := oY.down.app (G := G) (m ++ [.cells true [heapV H aw uw sv], .cells true [[tv]], r8]) (by simp)
  refine Nus.of ?_
  simpa only [List.append_assoc, List.cons_append, List.nil_append] using this
 have hLw : ∀ G, Nus (m ++ .cells true [heapV H aw uw sv] :: .cells true [[tv]] :: .cells true [[.nils, .nils, .nils, .nils]] :: (Y ++ G)) lw L := fun G => by
  have := hw'.down.app (g := G)
  simpa only [List.append_assoc, List.cons_append, List.nil_append] using this.n
 have hOv' := PLift.up hOv
 have hLw' := PLift.up hLw
 have hlen' := PLift.up hlen
 have eN' := PLift.up eN
 have h64 := hsp'.down.1
 clear hX' hOv hLw ap la hlen eN
 have pb := @pushB_mk
 refine range (α := V) l.length (fun w => [(3, lv), (4, .ptr m.length 0 0), (6, .ptr (m.length + 1) 0 0), (8, .ptr (m.length + 2) 0 0), (10, ov), (12, lw), (13, .ptr (m.length + (Y.length + 1 + 1 + 1)) 0 0), (14, w), (53, lv)])
  (fun k w M => ∃ fv G, M = m ++ .cells true [heapV H aw uw sv] :: .cells true [[tv]] :: .cells true [[.nils, .nils, .nils, .nils]] :: (Y ++ .cells true [[lw, .nils, fv, .nils]] :: G) ∧ Gw N G fv 3 ((finL (l.take k) L).map spcV) ∧ Gx N G w (u64l (rs ++ (finL (l.take k) L).map (·.ad))) ∧ (∀ b, blkOf fv = some b → blkOf w ≠ some b) ∧ ∀ j, j < k → (spOf l j).ad ∈ cs) wv
  ⟨.nils, g5, rfl, .inl ⟨rfl, rfl⟩, by show Gx N g5 wv (u64l (rs ++ [])); rw [List.append_nil]; exact hX2, fun b h => (by cases h), fun j hj => absurd hj (Nat.not_lt_zero _)⟩ ?_ ?_
 ·rintro k w fr _ hk F ⟨fv, G, rfl, hF, hW, hdis, hall⟩
  have la := (Sps.of hs'.down).app (g := .cells true [heapV H aw uw sv] :: .cells true [[tv]] :: .cells true [[.nils, .nils, .nils, .nils]] :: (Y ++ .cells true [[lw, .nils, fv, .nils]] :: G)) |>.ar
  obtain ⟨x, ex⟩ : ∃ x, spOf l k = x := ⟨_, rfl⟩
  have ex' := PLift.up ex
  have hxm := PLift.up (ex ▸ spOf_mem hk : x ∈ l)
  have en : spcV x = [.int .u64 (x.ad : Nat), .int .u8 (x.kd : Nat), .int .u64 (x.tg : Nat)] := rfl
  have fc := hF.cell
  have wc := hW.cell
  have hF' := PLift.up hF
  have hW' := PLift.up hW
  have hdis' := PLift.up hdis
  have hall' := PLift.up hall
  have hsn := PLift.up (keep_snoc (p := someP 1 L) hk)
  have hle := @keep_le (someP 1 L) l k
  clear hF hW hdis hall
  refine am ?_
  refine (Has_spec (hOv'.down _ _) (by omega)).mono ?_
  rintro _ _ ⟨rfl, rfl⟩
  by_cases hin : x.ad ∈ cs
  case neg =>
   rw [decide_eq_false hin]
   have no := PLift.up (b10.down fun h => hin (by have := h.a x hxm.down; rwa [ecs'.down] at this))
   clear hin pb
   refine am ?_
   exact no.down _
  rw [decide_eq_true hin]
  have nextA : PLift (∀ j, j < k + 1 → (spOf l j).ad ∈ cs) := ⟨fun j hj => by
   by_cases e : j = k
   ·subst e; rw [ex'.down]; exact hin
   ·exact hall'.down j (by omega)⟩
  clear hin
  have same : someP 1 L x = true → PLift (finL (l.take (k + 1)) L = finL (l.take k) L) := fun h => ⟨by
   have := hsn.down
   rw [ex'.down, if_pos h, List.append_nil] at this
   exact this⟩
  by_cases k1 : x.kd = 1
  case neg =>
   have c1 : ((x.kd : Int) = 1) = False := eq_false (by omega)
   have sm := same (by simp [someP, k1])
   clear k1 same pb
   refine am ?_
   exact ⟨w, byam, fv, _, rfl, by rw [sm.down]; exact hF'.down.app, by rw [sm.down]; exact hW'.down.app', hdis'.down, nextA.down⟩
  have c1 : ((x.kd : Int) = 1) = True := eq_true (by omega)
  have k1' := PLift.up k1
  clear k1
  refine am ?_
  refine (Has_spec (hLw'.down _) (by omega)).mono ?_
  rintro _ _ ⟨rfl, rfl⟩
  by_cases hinL : x.ad ∈ L
  ·rw [decide_eq_true hinL]
   have sm := same (by simp [someP, hinL])
   clear hinL same pb
   refine am ?_
   exact ⟨w, byam, fv, _, rfl, by rw [sm.down]; exact hF'.down.app, by rw [sm.down]; exact hW'.down.app', hdis'.down, nextA.down⟩
  rw [decide_eq_false hinL]
  have nw : PLift (finL (l.take (k + 1)) L = finL (l.take k) L ++ [x]) := ⟨by
   have := hsn.down
   rw [ex'.down, if_neg (by simp [someP, hinL, k1'.down])] at this
   exact this⟩
  clear hinL same
  obtain ⟨fel, hfel⟩ : ∃ fel, (finL (l.take k) L).map spcV = fel := ⟨_, rfl⟩
  obtain ⟨wel, hwel⟩ : ∃ wel, u64l (rs ++ (finL (l.take k) L).map (·.ad)) = wel := ⟨_, rfl⟩
  have fl : fel.length ≤ 63 := by rw [← hfel, List.length_map]; exact Nat.le_trans hle (by omega)
  have wl : wel.length ≤ rs.length + 63 := by
   rw [← hwel]
   simp only [u64l, List.length_map, List.length_append]
   have : (finL (l.take k) L).length ≤ k := hle
   omega
  have nF : PLift ((finL (l.take (k + 1)) L).map spcV = fel ++ [[.int .u64 (x.ad : Nat), .int .u8 (x.kd : Nat), .int .u64 (x.tg : Nat)]]) := ⟨by rw [nw.down, List.map_append, hfel]; rfl⟩
  have nW : PLift (u64l (rs ++ (finL (l.take (k + 1)) L).map (·.ad)) = wel ++ [[.int .u64 (x.ad : Nat)]]) := ⟨by rw [nw.down, List.map_append, ← List.append_assoc, u64l, List.map_append, ← u64l, hwel]; rfl⟩
  have hF := hF'.down
  have hW := hW'.down
  rw [hfel] at hF
  rw [hwel] at hW
  rw [← hlen'.down fv] at hF
  obtain ⟨G1, k1, k2, hp⟩ := hF.push (zero := [.int .u64 0, .int .u8 0, .int .u64 0]) (bytes := 24) rfl (by simp [roomy]; omega)
  have hp1 := hp [.cells true [[.int .u64 (x.ad : Nat), .int .u8 (x.kd : Nat), .int .u64 (x.tg : Nat)]], .cells true [[.int .u64 (x.ad : Nat), .int .u8 (x.kd : Nat), .int .u64 (x.tg : Nat)]]]
  simp only [hlen'.down] at hp1 k2 hF
  obtain ⟨fv', efv⟩ : ∃ fv', V.slice (N + (G.length + 2)) 0 (fel.length + 1) (fel.length + 1) false 3 = fv' := ⟨_, rfl⟩
  simp only [List.append_assoc, List.cons_append, List.nil_append, List.length_cons, List.length_nil, Nat.zero_add, Nat.reduceAdd] at hp1
  rw [efv] at hp1
  have f'c : fv'.isCell = true := by rw [← efv]; rfl
  have hG1 : Gx N (G1 ++ [.cells true [[.int .u64 (x.ad : Nat), .int .u8 (x.kd : Nat), .int .u64 (x.tg : Nat)]], .cells true [[.int .u64 (x.ad : Nat), .int .u8 (x.kd : Nat), .int .u64 (x.tg : Nat)]], .cells true (fel ++ [[.int .u64 (x.ad : Nat), .int .u8 (x.kd : Nat), .int .u64 (x.tg : Nat)]])]) w wel :=
   Gx.app' (hW.kp fun j hj => k2 j fun h => hdis'.down _ h hj)
  rw [← hlen'.down fv'] at hG1
  obtain ⟨G2, k3, k4, hq⟩ := hG1.push (by simp [roomy]; omega)
  have hq1 := hq [.cells true [[.int .u64 (x.ad : Nat)]]]
  simp only [hlen'.down] at hq1 k4
  have wb := fun b hb => Gx.bk hW (b := b) hb
  have k4' := PLift.up k4
  simp only [List.append_assoc, List.cons_append, List.nil_append, List.length_append, List.length_cons, List.length_nil, Nat.zero_add, Nat.reduceAdd] at hq1 k3
  have k1' := PLift.up k1
  have k3' := PLift.up k3
  have efv' := PLift.up efv
  have wb' := PLift.up wb
  have hWk := PLift.up hW
  clear hF hW hp hq k1 k2 k3 k4 hG1 wb hfel hwel efv
  have gg : ∀ R : Mem, (G1 ++ R)[G.length]? = R[0]? := fun R => by rw [← k1'.down, get_off0]
  refine am ?_
  refine ⟨.slice (N + (G1.length + 3 + 1)) 0 (wel.length + 1) (wel.length + 1) false 1, byam, fv', _, rfl, ?_, ?_, ?_, nextA.down⟩
  ·rw [nF.down]
   refine .inr ⟨G.length + 2, by rw [← efv'.down, List.length_append]; rfl, ?_⟩
   refine getElem?_grow ?_
   rw [k4'.down (G.length + 2) fun hb => by have := wb'.down _ hb; omega, ← k1'.down, get_off]
   rfl
  ·rw [nW.down]
   refine .inl (.inr ⟨G1.length + 3 + 1, by rw [List.length_append]; rfl, ?_⟩)
   rw [← k3'.down, get_off]
   rfl
  ·intro b h1 h2
   rw [← efv'.down] at h1
   have e1 : N + (G.length + 2) = b := Option.some.inj h1
   have e2 : N + (G1.length + 3 + 1) = b := Option.some.inj h2
   have := k1'.down
   omega
 rintro w fr _ F ⟨fv, G, rfl, hF, hW, _, hall⟩
 rw [List.take_length] at hF hW
 have fc := hF.cell
 have wc := hW.cell
 have hFok : FrOk H s rs l := ⟨hR'.down, hval'.down, hsp'.down, by rw [ecs'.down]; exact hok'.down, fun x hx => by
  obtain ⟨i, hi, e⟩ := List.getElem_of_mem hx
  have := hall i hi
  rw [show spOf l i = x by unfold spOf; rw [List.getD_eq_getElem?_getD, List.getElem?_eq_getElem hi]; exact e] at this
  rw [ecs'.down]
  exact this⟩
 have hmo : rOk cs (moreL rs (finL l L)) s := ⟨fun a ha => by
  rcases List.mem_append.1 ha with h1 | h1
  ·exact hok'.down.r a h1
  ·obtain ⟨x, hx, rfl⟩ := List.mem_map.1 h1
   have := hFok.a x (someP_no' hx)
   rw [ecs'.down] at this
   exact .inr this, hok'.down.s⟩
 have hml : (moreL rs (finL l L)).length ≤ rs.length + 64 := by
  have : (finL l L).length ≤ 64 := Nat.le_trans (List.length_filter_le _ _) h64
  simp only [moreL, List.length_append, List.length_map]
  omega
 have nM : Nus (m ++ .cells true [heapV H aw uw sv] :: .cells true [[tv]] :: .cells true [[.nils, .nils, .nils, .nils]] :: (Y ++ .cells true [[lw, .nils, fv, .nils]] :: G)) w (moreL rs (finL l L)) := by
  rw [← hlen'.down fv] at hW
  have := hW.sl (G := [])
  refine Nus.of ?_
  show Sl _ w 1 (u64l (rs ++ (finL l L).map (·.ad)))
  simpa only [List.append_assoc, List.cons_append, List.nil_append, List.append_nil] using this
 have good' := PLift.up (good.down hFok)
 have RR := PLift.up (ref_Reach_spec (rs := moreL rs (finL l L)) (s := s) h.app nM (by omega) ht'.down.app htl hN'.down)
 have hF' := PLift.up hF
 have hmo' := PLift.up hmo
 clear hF hW hall hFok hmo nM good pb
 refine am ?_
 refine RR.down.mono ?_
 rintro _ _ ⟨g6, rfl, ⟨hno, _⟩ | ⟨_, _, hno, _⟩ | ⟨_, _, _, kw, Kp, rfl, hkw, hs8, hl8, hm8⟩⟩
 ·exact absurd ⟨hR'.down, hval'.down⟩ hno
 ·rw [ecs'.down] at hno
  exact absurd hmo'.down hno
 have kc := hkw.cell
 have hs8' := PLift.up hs8
 have hm8' := PLift.up hm8
 simp only [List.append_assoc, List.cons_append] at hkw ⊢
 have kB : ∀ cv G3, Wd (m ++ .cells true [heapV H aw uw sv] :: .cells true [[tv]] :: .cells true [[.nils, .nils, .nils, .nils]] :: (Y ++ .cells true [[lw, kw, fv, cv]] :: (G ++ (g6 ++ G3)))) kw Kp := fun cv G3 => by
  have h1 := hkw.app (g := G3)
  have h2 : Wd ((m ++ .cells true [heapV H aw uw sv] :: .cells true [[tv]] :: .cells true [[.nils, .nils, .nils, .nils]] :: Y) ++ .cells true [[lw, .nils, fv, .nils]] :: (G ++ (g6 ++ G3))) kw Kp := by
   simpa only [List.append_assoc, List.cons_append] using h1
  have h3 := h2.box (el' := [lw, kw, fv, cv]) (by simp)
  simpa only [List.append_assoc, List.cons_append] using h3
 have kB' := PLift.up kB
 have la := (Sps.of hs'.down).ar.1
 have hlen6 : ∀ f : List V, (m ++ Blk.cells true [heapV H aw uw sv] :: Blk.cells true [[tv]] :: Blk.cells true [[.nils, .nils, .nils, .nils]] :: (Y ++ Blk.cells true [f] :: (G ++ g6))).length = N + (G.length + g6.length) := fun f => by
  rw [← eN'.down]
  simp
  omega
 obtain ⟨N6, eN6⟩ : ∃ N6, N + (G.length + g6.length) = N6 := ⟨_, rfl⟩
 rw [eN6] at hlen6
 have hlen6' := PLift.up hlen6
 clear RR hs8 hm8 hkw kB hlen6 eN6
 refine am ?_
 have pb := @pushB_mk
 refine range (α := Unit) l.length (fun _ => [(3, lv), (8, .ptr (m.length + 2) 0 0), (13, .ptr (m.length + (Y.length + 1 + 1 + 1)) 0 0), (95, lv)])
  (fun k _ M => ∃ cv G3, M = m ++ .cells true [heapV H aw uw sv] :: .cells true [[tv]] :: .cells true [[.nils, .nils, .nils, .nils]] :: (Y ++ .cells true [[lw, kw, fv, cv]] :: (G ++ (g6 ++ G3))) ∧ Gw N6 G3 cv 3 ((keep (someP 2 Kp) (l.take k)).map spcV)) ()
  ⟨.nils, [], by simp only [List.append_nil], .inl ⟨rfl, rfl⟩⟩ ?_ ?_
 ·rintro k _ fr _ hk F ⟨cv, G3, rfl, hC⟩
  have la := (Sps.of hs'.down).app (g := .cells true [heapV H aw uw sv] :: .cells true [[tv]] :: .cells true [[.nils, .nils, .nils, .nils]] :: (Y ++ .cells true [[lw, kw, fv, cv]] :: (G ++ (g6 ++ G3)))) |>.ar
  obtain ⟨x, ex⟩ : ∃ x, spOf l k = x := ⟨_, rfl⟩
  have ex' := PLift.up ex
  have en : spcV x = [.int .u64 (x.ad : Nat), .int .u8 (x.kd : Nat), .int .u64 (x.tg : Nat)] := rfl
  have cc := hC.cell
  have hC' := PLift.up hC
  have hsn := PLift.up (keep_snoc (p := someP 2 Kp) hk)
  have hle := @keep_le (someP 2 Kp) l k
  clear hC
  have same : someP 2 Kp x = true → PLift (keep (someP 2 Kp) (l.take (k + 1)) = keep (someP 2 Kp) (l.take k)) := fun h => ⟨by
   have := hsn.down
   rw [ex'.down, if_pos h, List.append_nil] at this
   exact this⟩
  by_cases k1 : x.kd = 2
  case neg =>
   have c1 : ((x.kd : Int) = 2) = False := eq_false (by omega)
   have sm := same (by simp [someP, k1])
   clear k1 same pb
   refine am ?_
   exact ⟨(), byam, cv, _, rfl, by rw [sm.down]; exact hC'.down.app⟩
  have c1 : ((x.kd : Int) = 2) = True := eq_true (by omega)
  have k1' := PLift.up k1
  clear k1
  refine am ?_
  refine (Has_spec (kB'.down _ _).n (by omega)).mono ?_
  rintro _ _ ⟨rfl, rfl⟩
  by_cases hinL : x.ad ∈ Kp
  ·rw [decide_eq_true hinL]
   have sm := same (by simp [someP, hinL])
   clear hinL same pb
   refine am ?_
   exact ⟨(), byam, cv, _, rfl, by rw [sm.down]; exact hC'.down.app⟩
  rw [decide_eq_false hinL]
  have nw : PLift (keep (someP 2 Kp) (l.take (k + 1)) = keep (someP 2 Kp) (l.take k) ++ [x]) := ⟨by
   have := hsn.down
   rw [ex'.down, if_neg (by simp [someP, hinL, k1'.down])] at this
   exact this⟩
  clear hinL same
  obtain ⟨fel, hfel⟩ : ∃ fel, (keep (someP 2 Kp) (l.take k)).map spcV = fel := ⟨_, rfl⟩
  have fl : fel.length ≤ 63 := by rw [← hfel, List.length_map]; exact Nat.le_trans hle (by omega)
  have nF : PLift ((keep (someP 2 Kp) (l.take (k + 1))).map spcV = fel ++ [[.int .u64 (x.ad : Nat), .int .u8 (x.kd : Nat), .int .u64 (x.tg : Nat)]]) := ⟨by rw [nw.down, List.map_append, hfel]; rfl⟩
  have hC := hC'.down
  rw [hfel, ← hlen6'.down [lw, kw, fv, cv]] at hC
  obtain ⟨G1, k1, _, hp⟩ := hC.push (zero := [.int .u64 0, .int .u8 0, .int .u64 0]) (bytes := 24) rfl (by simp [roomy]; omega)
  have hp1 := hp [.cells true [[.int .u64 (x.ad : Nat), .int .u8 (x.kd : Nat), .int .u64 (x.tg : Nat)]], .cells true [[.int .u64 (x.ad : Nat), .int .u8 (x.kd : Nat), .int .u64 (x.tg : Nat)]]]
  simp only [hlen6'.down] at hp1
  obtain ⟨cv', ecv⟩ : ∃ cv', V.slice (N6 + (G3.length + 2)) 0 (fel.length + 1) (fel.length + 1) false 3 = cv' := ⟨_, rfl⟩
  simp only [List.append_assoc, List.cons_append, List.nil_append, List.length_cons, List.length_nil, Nat.zero_add, Nat.reduceAdd] at hp1
  rw [ecv] at hp1
  have c'c : cv'.isCell = true := by rw [← ecv]; rfl
  have k1' := PLift.up k1
  have ecv' := PLift.up ecv
  clear hC hp k1 hfel ecv
  refine am ?_
  refine ⟨(), byam, cv', _, rfl, ?_⟩
  rw [nF.down]
  refine .inr ⟨G3.length + 2, by rw [← ecv'.down, List.length_append]; rfl, ?_⟩
  rw [← k1'.down, get_off]
  rfl
 rintro _ fr _ F ⟨cv, G3, rfl, hC⟩
 rw [List.take_length] at hC
 have cc := hC.cell
 have hC' := PLift.up hC
 clear hC pb
 refine am ?_
 refine good'.down lw kw fv cv L Kp _ ?_ ?_ ?_ ?_ hs5'.down hs8'.down (by omega) (by omega) hm5'.down hm8'.down
 ·have h1 := hw'.down.app (g := .cells true [[lw, kw, fv, cv]] :: (G ++ (g6 ++ G3)))
  have h2 : Wd ((m ++ [.cells true [heapV H aw uw sv], .cells true [[tv]]]) ++ .cells true [[.nils, .nils, .nils, .nils]] :: (Y ++ .cells true [[lw, kw, fv, cv]] :: (G ++ (g6 ++ G3)))) lw L := by
   simpa only [List.append_assoc, List.cons_append, List.nil_append] using h1
  have h3 := (h2.box (el' := [lw, kw, fv, cv]) (by simp)).n
  simpa only [List.append_assoc, List.cons_append, List.nil_append] using h3
 ·have h1 := kB'.down cv G3
  have h2 : Wd ((m ++ [.cells true [heapV H aw uw sv], .cells true [[tv]]]) ++ .cells true [[.nils, .nils, .nils, .nils]] :: (Y ++ .cells true [[lw, kw, fv, cv]] :: (G ++ (g6 ++ G3)))) kw Kp := by
   simpa only [List.append_assoc, List.cons_append, List.nil_append] using h1
  have h3 := (h2.box (el' := [lw, kw, fv, cv]) (by simp)).n
  simpa only [List.append_assoc, List.cons_append, List.nil_append] using h3
 ·have := hF'.down.s.app (G := g6 ++ G3) (m ++ Blk.cells true [heapV H aw uw sv] :: Blk.cells true [[tv]] :: Blk.cells true [[lw, kw, fv, cv]] :: (Y ++ [Blk.cells true [[lw, kw, fv, cv]]])) (by rw [← eN'.down]; simp)
  simpa only [List.append_assoc, List.cons_append, List.nil_append] using this
 ·have := hC'.down.s (m ++ Blk.cells true [heapV H aw uw sv] :: Blk.cells true [[tv]] :: Blk.cells true [[lw, kw, fv, cv]] :: (Y ++ Blk.cells true [[lw, kw, fv, cv]] :: (G ++ g6))) (by rw [← hlen6'.down [lw, kw, fv, cv]]; simp)
  simpa only [List.append_assoc, List.cons_append, List.nil_append] using this
end Go.AM.G
