/- model.Reach; a table of no slots. -/
import Derived.Test.YtkimcedmfnoeoaaGreatDoorHmE
set_option linter.unusedVariables false
set_option linter.unusedSimpArgs false
set_option maxRecDepth 100000
namespace Go.AM.G
open Go Go.AM
def mOk (cs rs K W : List Nat) : Prop := ∀ a, a ∈ rs ++ (W ++ K) → a = 0 ∨ a ∈ cs
def mReachR (H : HeapA) (ok : Prop) (rs K W : List Nat) (m g : Mem) (r : V) : Prop :=
 (¬ (H.right ∧ ok) ∧ r = .tup [.nils, .int .i64 2]) ∨
 (H.right ∧ ok ∧ ¬ mOk (curs (obs H H.ns)) rs K W ∧ r = .tup [.nils, .int .i64 10]) ∨
 (H.right ∧ ok ∧ mOk (curs (obs H H.ns)) rs K W ∧ ∃ v L, r = .tup [v, .int .i64 0] ∧ Gw m.length g v 1 (u64l L) ∧ L.Pairwise (· < ·) ∧ L.length ≤ 2048 ∧ ∀ a, a ∈ L ↔ Rcb rs (nxtM H.a K W) a)
theorem MReach_spec {m : Mem} {aw uw sv tv rv : V} {va vm : Nat → V} {H : HeapA} {ok : Prop} {rs K W : List Nat} (h : HpRd m aw uw sv va vm H) (ht : tv.isCell = true) (hA : EphAll m tv ok K W) (hKW : K.length = W.length) (hKl : K.length < 1000000) (hrs : Nus m rv rs) (hrl : rs.length + (W.length + K.length) ≤ 17592186044416) :
  C S n_model_Reach [.agg (heapV H aw uw sv), rv, .agg [tv]] m (fun r m' => ∃ g, m' = m ++ g ∧ mReachR H ok rs K W m g r) := by
 have A := h.a.ar.2.1
 have B := h.u.ar.2.1
 have D := h.s.s.ar.2.1
 have A1 := hrs.ar.2.1
 have hA' := PLift.up hA
 obtain ⟨Q, hQ⟩ : ∃ Q, mReachR H ok rs K W m = Q := ⟨_, rfl⟩
 have hQ' := PLift.up hQ
 rw [hQ]
 clear hA hQ
 refine fn rfl ?_
 refine (open_mspec h.app ht hA'.down.app).mono ?_
 rintro _ _ ⟨g1, rfl, ⟨hR, hk, P, ov, kv, vv, rfl, hP, h1, h2, h3⟩ | ⟨hno, rfl⟩⟩
 case inr =>
  have hno' := PLift.up hno
  clear hno
  refine am ?_
  refine into ?_
  refine ⟨_, rfl, ?_⟩
  rw [← hQ'.down]
  exact .inl ⟨hno'.down, rfl⟩
 have hw := hR.2.1.wide hR.1 h.wa
 have hcs := curs_rise (rises_pair hw.rises)
 have hcl : (curs (obs H H.ns)).length ≤ 2048 := Nat.le_trans curs_len (obs_small hR.1)
 have hcur := fun a ha => HeapA.right.cur hR h.wa (a := a) ha
 have hna := hR.1.na
 obtain ⟨cs, ecs⟩ : ∃ cs, curs (obs H H.ns) = cs := ⟨_, rfl⟩
 have ecs' := PLift.up ecs
 rw [ecs] at hcs hcl hcur h1
 have hcur' := PLift.up hcur
 have hcs' := PLift.up hcs
 have hR' := PLift.up hR
 have hk' := PLift.up hk
 have h1' := PLift.up h1
 have h2' := PLift.up h2
 have h3' := PLift.up h3
 have hP' := PLift.up hP
 have hQE : PLift (∀ g, ¬ mOk cs rs K W → Q g (.tup [.nils, .int .i64 10])) := ⟨fun g hn => by rw [← hQ'.down]; exact .inr (.inl ⟨hR, hk, by rw [ecs]; exact hn, rfl⟩)⟩
 have hQO : PLift (∀ g v L, mOk cs rs K W → Gw m.length g v 1 (u64l L) → L.Pairwise (· < ·) → L.length ≤ 2048 → (∀ a, a ∈ L ↔ Rcb rs (nxtM H.a K W) a) → Q g (.tup [v, .int .i64 0])) := ⟨fun g v L hm a1 a2 a3 a4 => by rw [← hQ'.down]; exact .inr (.inr ⟨hR, hk, by rw [ecs]; exact hm, v, L, rfl, a1, a2, a3, a4⟩)⟩
 clear hw hcs hcl hcur hR hk h1 h2 h3 hP hQ'
 refine am ?_
 have hPm : (m ++ Blk.cells true [heapV H aw uw sv] :: Blk.cells true [[tv]] :: g1)[m.length + 2 + P]? = some (Blk.cells true [mgV (heapV H aw uw sv) ov kv vv]) := by
  rw [show m.length + 2 + P = m.length + (P + 2) by omega, get_off]; exact hP'.down
 have n1 : Nus (m ++ Blk.cells true [heapV H aw uw sv] :: Blk.cells true [[tv]] :: g1) ov cs := by simpa only [List.append_assoc, List.cons_append, List.nil_append] using h1'.down
 have n2 : Nus (m ++ Blk.cells true [heapV H aw uw sv] :: Blk.cells true [[tv]] :: g1) kv K := by simpa only [List.append_assoc, List.cons_append, List.nil_append] using h2'.down
 have n3 : Nus (m ++ Blk.cells true [heapV H aw uw sv] :: Blk.cells true [[tv]] :: g1) vv W := by simpa only [List.append_assoc, List.cons_append, List.nil_append] using h3'.down
 have oc := n1.ar.2.1
 have hPm' := PLift.up hPm
 have n1' := PLift.up n1
 have n2' := PLift.up n2
 have n3' := PLift.up n3
 have hcl' : cs.length ≤ 2048 := by rw [← ecs]; exact Nat.le_trans curs_len (obs_small hR'.down.1)
 clear hPm n1 n2 n3 ecs h1' h2' h3' hP'
 refine (dead_spec (own := true) (hv := heapV H aw uw sv) hPm'.down rfl n1'.down hcs'.down (by omega) n2'.down n3'.down hrs.app hrl).mono ?_
 rintro _ _ ⟨⟨hm, rfl⟩ | ⟨hm, rfl⟩, ⟨g2, rfl⟩⟩
 case inr =>
  have hm' := PLift.up hm
  clear hm
  refine am ?_
  refine into ?_
  exact ⟨_, rfl, hQE.down _ hm'.down⟩
 have hm' := PLift.up hm
 clear hm
 refine am ?_
 refine into ?_
 have hd : ∀ i, i < rs.length → nx rs i = 0 ∨ nx rs i ∈ cs := fun i hi => hm'.down _ (List.mem_append_left _ (nx_mem hi))
 have hc : ∀ x, x ∈ cs → ∀ b, nxtM H.a K W x b → b ≠ 0 → b ∈ cs := by
  rintro x hx b (⟨f, hf, h4, rfl⟩ | ⟨i, hi, _, rfl⟩) hne
  ·exact (hcur'.down x hx).2.2.2.2 f hf h4 hne
  ·exact (hm'.down _ (List.mem_append_right _ (List.mem_append_left _ (nx_mem (by omega))))).resolve_left hne
 have R := reach_spec (m := m ++ Blk.cells true [heapV H aw uw sv] :: Blk.cells true [[tv]] :: (g1 ++ g2)) (P := m.length + 2 + P) (own := true) (rv := rv) (rs := rs) (cs := cs) h.app (by have := getElem?_grow (g := g2) hPm'.down; simpa only [List.append_assoc, List.cons_append] using this) (fun x hx => ⟨(hcur'.down x hx).2.1, (hcur'.down x hx).2.2.1⟩) hc (by omega) (by omega)
  (by have := n2'.down.app (g := g2); simpa only [List.append_assoc, List.cons_append] using this) (by have := n3'.down.app (g := g2); simpa only [List.append_assoc, List.cons_append] using this) hKW hKl hrs.app (by omega) hd oc
 have R' := PLift.up R
 clear R hd hc
 refine R'.down.mono ?_
 rintro r _ ⟨g3, L, rfl, hG, hs, hll, hmem⟩
 have hG' := PLift.up hG
 have hs' := PLift.up hs
 have hmem' := PLift.up hmem
 clear R' hG hs hmem
 refine am ?_
 refine ⟨_, rfl, hQO.down _ r L hm'.down ?_ hs'.down (by omega) hmem'.down⟩
 have h1 : Gw (m.length + (Blk.cells true [heapV H aw uw sv] :: Blk.cells true [[tv]] :: (g1 ++ g2)).length) g3 r 1 (u64l L) := hG'.down.cast
 have := Gw.pre _ h1
 simpa only [List.append_assoc, List.cons_append] using this
end Go.AM.G
