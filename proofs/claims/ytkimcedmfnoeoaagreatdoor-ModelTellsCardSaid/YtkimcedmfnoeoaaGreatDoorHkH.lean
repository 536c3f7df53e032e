/- What becomes of all, in the model. -/
import Derived.Test.YtkimcedmfnoeoaaGreatDoorHkF
import Derived.Test.YtkimcedmfnoeoaaGreatDoorHkC
import Derived.Test.YtkimcedmfnoeoaaGreatDoorHkA
set_option linter.unusedVariables false
set_option linter.unusedSimpArgs false
set_option maxRecDepth 100000
namespace Go.AM.G
open Go Go.AM
def someP (k : Nat) (L : List Nat) (s : Spc) : Bool := decide (s.kd ≠ k) || decide (s.ad ∈ L)
theorem some1_spec {M : Mem} {x : Spc} {b1 b2 k : Nat} {lv : V} {own own' : Bool} {L : List Nat} (h1 : M[b1]? = some (.cells own [[.int .u8 (k : Nat)]])) (h2 : M[b2]? = some (.cells own' [[lv]])) (hL : Nus M lv L) (hr : L.Pairwise (· < ·)) (hl : L.length < 1000000) :
  C S n_model_some_1 [.agg [.int .u64 (x.ad : Nat), .int .u8 (x.kd : Nat), .int .u64 (x.tg : Nat)], .ptr b1 0 0, .ptr b2 0 0] M (fun r m' => r = .bool (someP k L x) ∧ Grow M m') := by
 have c1 : ∀ g : Mem, (M ++ g)[b1]? = some (.cells own [[.int .u8 (k : Nat)]]) := fun g => getElem?_grow h1
 have c2 : ∀ g : Mem, (M ++ g)[b2]? = some (.cells own' [[lv]]) := fun g => getElem?_grow h2
 have hr' := PLift.up hr
 clear h1 h2 hr
 by_cases hk : x.kd = k
 ·have e : ((x.kd : Int) = (k : Int)) = True := eq_true (by omega)
  have ep : someP k L x = decide (x.ad ∈ L) := by simp [someP, hk]
  rw [ep]
  clear hk ep
  refine fn rfl ?_
  refine (has_spec hL.app hr'.down hl).mono ?_
  rintro _ _ ⟨rfl, ⟨g, rfl⟩⟩
  refine am ?_
  exact ⟨_, rfl⟩
 ·have e : ((x.kd : Int) = (k : Int)) = False := eq_false (by omega)
  have ep : someP k L x = true := by simp [someP, hk]
  rw [ep]
  clear hk ep
  refine fn rfl ?_
  exact ⟨_, rfl⟩
theorem some_spec {m : Mem} {v lv : V} {l : List Spc} {k : Nat} {L : List Nat} (hv : Sps m v l) (hl : l.length < 5864062014806) (hL : Nus m lv L) (hr : L.Pairwise (· < ·)) (hll : L.length < 1000000) :
  C S n_model_some [v, .int .u8 (k : Nat), lv] m (fun r m' => ∃ g, m' = m ++ g ∧ InS m.length g r 3 ((keep (someP k L) l).map spcV)) := by
 have A := hv.ar
 have B := hL.ar
 have hr' := PLift.up hr
 clear hr
 refine fn rfl ?_
 refine (CloneS_spec hv.app hl).mono ?_
 rintro r _ ⟨g, rfl, hI, hc⟩
 have hI' := PLift.up hI
 have hc' := PLift.up hc
 have rc := hI.cell
 clear hI hc
 refine am ?_
 have hT : Tells (m ++ [.cells true [[.int .u8 (k : Nat)]], .cells true [[lv]]]) (.fn n_model_some_1 [] [.ptr m.length 0 0, .ptr (m.length + 1) 0 0]) l (someP k L) := fun g2 x _ =>
  some1_spec (own := true) (own' := true) (getElem?_grow (by rw [get_off0]; rfl)) (getElem?_grow (by rw [get_off]; rfl)) hL.app.app hr'.down hll
 have := DeleteFuncS_spec (m := m ++ [.cells true [[.int .u8 (k : Nat)]], .cells true [[lv]]]) (g0 := g) (v := r) (c := .fn n_model_some_1 [] [.ptr m.length 0 0, .ptr (m.length + 1) 0 0]) hI'.down hc'.down (by omega) hT
 simp only [List.append_assoc, List.cons_append, List.nil_append] at this
 refine this.mono ?_
 rintro r2 _ ⟨g3, rfl, hS⟩
 have hS' := PLift.up hS
 clear hS this hT
 refine am ?_
 exact ⟨_, rfl, InS.pre [.cells true [[.int .u8 (k : Nat)]], .cells true [[lv]]] hS'.down.cast⟩
end Go.AM.G
set_option maxRecDepth 100000
namespace Go.AM.G
open Go Go.AM
def Gx (len : Nat) (g : Mem) (v : V) (els : List (List V)) : Prop := Gw len g v 1 els ∨ (els = [] ∧ ∃ j own es, v = .slice (len + j) 0 0 0 true 1 ∧ g[j]? = some (.cells own es))
theorem Gx.cell {len : Nat} {g : Mem} {v : V} {els : List (List V)} (h : Gx len g v els) : v.isCell = true := by
 rcases h with h | ⟨_, _, _, _, rfl, _⟩
 ·exact h.cell
 ·rfl
theorem Gx.sl {A g G : Mem} {v : V} {els : List (List V)} (h : Gx A.length g v els) : Sl (A ++ (g ++ G)) v 1 els := by
 rcases h with h | ⟨rfl, j, own, es, rfl, hj⟩
 ·exact h.sl
 ·have : (A ++ (g ++ G))[A.length + j]? = some (.cells own es) := by rw [get_off]; exact getElem?_grow hj
  exact ⟨by simp [elems, this], by simp [zOk]⟩
theorem Gx.push {A g : Mem} {v : V} {els : List (List V)} (h : Gx A.length g v els) (hr : roomy (els.length + 1) 8 = true) :
  ∃ g', g'.length = g.length ∧ (∀ j, blkOf v ≠ some (A.length + j) → g'[j]? = g[j]?) ∧ ∀ G T, appendV (A ++ (g ++ G)) [.int .u64 0] 8 v (.slice T 0 1 1 true 1) = pushB (A ++ (g ++ G))[T]? fun x => (.slice (A.length + (g.length + G.length)) 0 (els.length + 1) (els.length + 1) false 1, A ++ (g' ++ (G ++ [.cells true (els ++ [x])]))) := by
 rcases h with h | ⟨rfl, j, own, es, rfl, hj⟩
 ·exact h.push rfl hr
 ·refine ⟨g, rfl, fun _ _ => rfl, fun G T => ?_⟩
  have e : (A ++ (g ++ G))[A.length + j]? = some (.cells own es) := by rw [get_off]; exact getElem?_grow hj
  unfold appendV elemsY elems pushB
  dsimp only
  cases hT : (A ++ (g ++ G))[T]? with
  | none => rfl
  | some y =>
   cases y with
   | dead => rfl
   | mp es => rfl
   | cells o xs =>
    cases xs with
    | nil => simp
    | cons x xs =>
     have hr' : roomy 1 8 = true := by simpa using hr
     simp [zOk, e, hr', List.append_assoc]
theorem CloneX_spec {m : Mem} {v : V} {rs : List Nat} (hv : Nus m v rs) (hn : rs.length < 17592186044417) : C S n_slices_Clone_uint64 [v] m (fun r m' => ∃ g, m' = m ++ g ∧ Gx m.length g r (u64l rs)) := by
 have hlen : (u64l rs).length = rs.length := by simp
 rcases hv with hv | ⟨e, rfl⟩
 ·rcases hv.cases with ⟨rfl, he⟩ | ⟨b, i, len, cap, ex, rfl⟩
  ·have : rs = [] := by
    have := congrArg List.length he
    simpa using this
   subst this
   refine fn rfl ?_
   exact ⟨[], by simp, .inl (.inl ⟨rfl, rfl⟩)⟩
  ·have he : elems (m ++ [.cells true []]) (.slice b i len cap ex 1) = some (u64l rs) := by
    have := (hv.app (g := [.cells true []])).1
    rw [this]
    congr 1
    exact (map_nx (f := fun p : Nat => [V.int .u64 (p : Int)]) (l := rs)).symm
   have hy := elemsY_of he
   have hz : zOk (.slice b i len cap ex 1) 1 = true := hv.2
   by_cases h0 : rs = []
   ·subst h0
    have ap : appendV (m ++ [.cells true []]) [.int .u64 0] 8 (.slice m.length 0 0 0 true 1) (.slice b i len cap ex 1) = some (.slice m.length 0 0 0 true 1, m ++ [.cells true []]) := by
     unfold appendV
     rw [hy]
     simp [hz, u64l]
    clear hy he
    refine fn rfl ?_
    exact ⟨_, rfl, .inr ⟨rfl, 0, true, [], rfl, rfl⟩⟩
   ·have hpos : 0 < rs.length := List.length_pos_iff.2 h0
    have ap : appendV (m ++ [.cells true []]) [.int .u64 0] 8 (.slice m.length 0 0 0 true 1) (.slice b i len cap ex 1) = some (.slice (m.length + 1) 0 rs.length rs.length false 1, m ++ ([.cells true []] ++ [.cells true (u64l rs)])) := by
     unfold appendV
     rw [hy]
     have e1 : (u64l rs).isEmpty = false := by cases rs with
      | nil => exact absurd rfl h0
      | cons a l => rfl
     have e2 : (m ++ [Blk.cells true []])[m.length]? = some (.cells true []) := by simp
     have e3 : roomy rs.length 8 = true := by simp [roomy]; omega
     have e4 : ¬ rs.length = 0 := by omega
     have e5 : ¬ rs.length ≤ 0 := by omega
     simp [hz, e1, hlen, e3, e4, List.append_assoc]
    clear hy he
    refine fn rfl ?_
    refine ⟨_, rfl, .inl (.inr ⟨1, ?_, rfl⟩)⟩
    rw [hlen]
 ·have : rs = [] := by
   cases rs with
   | nil => rfl
   | cons a l => simp at e
  subst this
  refine fn rfl ?_
  exact ⟨.slice m.length 0 0 0 true 1, m ++ [.cells true []], by simp [appendV, elemsY, zOk], [.cells true []], rfl, .inr ⟨rfl, 0, true, [], rfl, rfl⟩⟩
theorem Fate1_spec {M : Mem} {x : Spc} {b P : Nat} {own own' : Bool} {hv : List V} {ov kv vv : V} {cs : List Nat} (hb : M[b]? = some (.cells own [[.ptr P 0 0]])) (hP : M[P]? = some (.cells own' [mgV hv ov kv vv])) (h4 : hv.length = 4) (ho : Nus M ov cs) (hr : cs.Pairwise (· < ·)) (hl : cs.length < 1000000) :
  C S n_model_Fate_1 [.agg [.int .u64 (x.ad : Nat), .int .u8 (x.kd : Nat), .int .u64 (x.tg : Nat)], .ptr b 0 0] M (fun r m' => r = .bool (!decide (x.ad = 0 ∨ x.ad ∈ cs)) ∧ Grow M m') := by
 have c1 : ∀ g : Mem, (M ++ g)[b]? = some (.cells own [[.ptr P 0 0]]) := fun g => getElem?_grow hb
 have hr' := PLift.up hr
 have hP' := PLift.up hP
 clear hb hr hP
 refine fn rfl ?_
 refine (msound_spec (own := own') (hv := hv) (getElem?_grow hP'.down) h4 ho.app hr'.down hl).mono ?_
 rintro _ _ ⟨rfl, ⟨g, rfl⟩⟩
 by_cases h : x.ad = 0 ∨ x.ad ∈ cs
 ·rw [decide_eq_true h]
  have h' := PLift.up h
  clear h
  refine am ?_
  exact ⟨(decide_eq_false fun hn => hn h'.down).symm, _, rfl⟩
 ·rw [decide_eq_false h]
  have h' := PLift.up h
  clear h
  refine am ?_
  exact ⟨(decide_eq_true h'.down).symm, _, rfl⟩
structure FtOk (H : HeapA) (ok : Prop) (rs K W : List Nat) (l : List Spc) : Prop where
 hR : H.right
 ok : ok
 sp : spRight l
 m : mOk (curs (obs H H.ns)) rs K W
 a : ∀ x, x ∈ l → x.ad = 0 ∨ x.ad ∈ curs (obs H H.ns)
def finL (l : List Spc) (L : List Nat) : List Spc := keep (someP 1 L) l
def moreL (rs : List Nat) (F : List Spc) : List Nat := rs ++ F.map (·.ad)
abbrev nil4 : V := .agg [.nils, .nils, .nils, .nils]
def mFateR (H : HeapA) (ok : Prop) (rs K W : List Nat) (l : List Spc) (M : Mem) (r : V) : Prop :=
 (¬ (H.right ∧ ok ∧ spRight l) ∧ r = .tup [nil4, .int .i64 2]) ∨
 (H.right ∧ ok ∧ spRight l ∧ ¬ FtOk H ok rs K W l ∧ r = .tup [nil4, .int .i64 10]) ∨
 (FtOk H ok rs K W l ∧ ∃ lv kv fv cv L Kp, r = .tup [.agg [lv, kv, fv, cv], .int .i64 0] ∧ Nus M lv L ∧ Nus M kv Kp ∧ Sl M fv 3 ((finL l L).map spcV) ∧ Sl M cv 3 ((keep (someP 2 Kp) l).map spcV) ∧
  L.Pairwise (· < ·) ∧ Kp.Pairwise (· < ·) ∧ L.length ≤ 2048 ∧ Kp.length ≤ 2048 ∧ (∀ a, a ∈ L ↔ Rcb rs (nxtM H.a K W) a) ∧ ∀ a, a ∈ Kp ↔ Rcb (moreL rs (finL l L)) (nxtM H.a K W) a)
theorem Fate_spec {m : Mem} {aw uw sv tv rv lv : V} {va vm : Nat → V} {H : HeapA} {ok : Prop} {rs K W : List Nat} {l : List Spc} (h : HpRd m aw uw sv va vm H) (ht : tv.isCell = true) (hA : EphAll m tv ok K W) (hKW : K.length = W.length) (hKl : K.length < 1000000) (hrs : Nus m rv rs) (hrl : rs.length + 64 + (W.length + K.length) ≤ 17592186044416)
  (hs : Sl m lv 3 (l.map spcV)) (hsc : capOk lv) (hsl : l.length < 5864062014806) :
  C S n_model_Fate [.agg (heapV H aw uw sv), rv, .agg [tv], lv] m (fun r m' => ∃ g, m' = m ++ g ∧ mFateR H ok rs K W l m' r) := by
 have A := h.a.ar.2.1
 have B := h.u.ar.2.1
 have D := h.s.s.ar.2.1
 have A1 := hrs.ar.2.1
 have lc := hs.cell
 have hA' := PLift.up hA
 have hs' := PLift.up hs
 have hsc' := PLift.up hsc
 have hrs' := PLift.up hrs
 obtain ⟨Q, hQ⟩ : ∃ Q : V → Mem → Prop, Q = fun r m' => ∃ g, m' = m ++ g ∧ mFateR H ok rs K W l m' r := ⟨_, rfl⟩
 rw [← hQ]
 have bad2 : PLift (¬ (H.right ∧ ok ∧ spRight l) → ∀ g, Q (.tup [nil4, .int .i64 2]) (m ++ g)) := ⟨fun hn g => by rw [hQ]; exact ⟨_, rfl, .inl ⟨hn, rfl⟩⟩⟩
 have bad10 : PLift (H.right → ok → spRight l → ¬ FtOk H ok rs K W l → ∀ g, Q (.tup [nil4, .int .i64 10]) (m ++ g)) := ⟨fun h1 h2 h3 hn g => by rw [hQ]; exact ⟨_, rfl, .inr (.inl ⟨h1, h2, h3, hn, rfl⟩)⟩⟩
 have good : PLift (FtOk H ok rs K W l → ∀ lv kv fv cv L Kp g, Nus (m ++ g) lv L → Nus (m ++ g) kv Kp → Sl (m ++ g) fv 3 ((finL l L).map spcV) → Sl (m ++ g) cv 3 ((keep (someP 2 Kp) l).map spcV) →
  L.Pairwise (· < ·) → Kp.Pairwise (· < ·) → L.length ≤ 2048 → Kp.length ≤ 2048 → (∀ a, a ∈ L ↔ Rcb rs (nxtM H.a K W) a) → (∀ a, a ∈ Kp ↔ Rcb (moreL rs (finL l L)) (nxtM H.a K W) a) → Q (.tup [.agg [lv, kv, fv, cv], .int .i64 0]) (m ++ g)) := ⟨fun h0 lv kv fv cv L Kp g a1 a2 a3 a4 a5 a6 a7 a8 a9 a10 => by
   rw [hQ]; exact ⟨_, rfl, .inr (.inr ⟨h0, lv, kv, fv, cv, L, Kp, rfl, a1, a2, a3, a4, a5, a6, a7, a8, a9, a10⟩)⟩⟩
 clear hA hs hsc hrs hQ
 refine fn rfl ?_
 refine (open_mspec h.app ht hA'.down.app).mono ?_
 rintro _ _ ⟨g1, rfl, ⟨hR, hk, P, ov, kv, vv, rfl, hP, h1, h2, h3⟩ | ⟨hno, rfl⟩⟩
 case inr =>
  have no := PLift.up (bad2.down fun h => hno ⟨h.1, h.2.1⟩)
  clear hno
  refine am ?_
  refine into ?_
  refine into ?_
  refine into ?_
  exact no.down _
 have hw := hR.2.1.wide hR.1 h.wa
 have hcs := curs_rise (rises_pair hw.rises)
 have hcl : (curs (obs H H.ns)).length ≤ 2048 := Nat.le_trans curs_len (obs_small hR.1)
 have hcur := fun a ha => HeapA.right.cur hR h.wa (a := a) ha
 have hna := hR.1.na
 have hR' := PLift.up hR
 have hk' := PLift.up hk
 have hcs' := PLift.up hcs
 have hcur' := PLift.up hcur
 have h1' := PLift.up h1
 have h2' := PLift.up h2
 have h3' := PLift.up h3
 have hP' := PLift.up hP
 clear hw hcs hcur hR hk h1 h2 h3 hP
 refine am ?_
 refine (special_Check_spec hs'.down.app hsc'.down hsl).mono ?_
 rintro _ _ ⟨⟨hsp, rfl⟩ | ⟨hsp, rfl⟩, ⟨g2, rfl⟩⟩
 case inr =>
  have no := PLift.up (bad2.down fun h => hsp h.2.2)
  clear hsp
  refine am ?_
  refine into ?_
  refine into ?_
  refine into ?_
  exact no.down _
 have hsp' := PLift.up hsp
 clear hsp
 refine am ?_
 refine into ?_
 obtain ⟨cs, ecs⟩ : ∃ cs, curs (obs H H.ns) = cs := ⟨_, rfl⟩
 have ecs' := PLift.up ecs
 rw [ecs] at hcl h1'
 rw [ecs] at hcur' hcs'
 have fP : ∀ G, (m ++ .cells true [heapV H aw uw sv] :: .cells true [[tv]] :: .cells true [[.nils, .nils, .nils, .nils]] :: (g1 ++ .cells true [[.ptr (m.length + 3 + P) 0 0]] :: (g2 ++ G)))[m.length + 3 + P]? = some (.cells true [mgV (heapV H aw uw sv) ov kv vv]) := fun G => by
  rw [show m.length + 3 + P = m.length + (P + 3) by omega, get_off]
  exact getElem?_grow hP'.down
 have f10 : ∀ G, (m ++ .cells true [heapV H aw uw sv] :: .cells true [[tv]] :: .cells true [[.nils, .nils, .nils, .nils]] :: (g1 ++ .cells true [[.ptr (m.length + 3 + P) 0 0]] :: (g2 ++ G)))[m.length + (g1.length + 1 + 1 + 1)]? = some (.cells true [[.ptr (m.length + 3 + P) 0 0]]) := fun G => by
  rw [get_off]
  show (g1 ++ .cells true [[.ptr (m.length + 3 + P) 0 0]] :: (g2 ++ G))[g1.length]? = _
  rw [get_off0]
  rfl
 have nO : ∀ G, Nus (m ++ .cells true [heapV H aw uw sv] :: .cells true [[tv]] :: .cells true [[.nils, .nils, .nils, .nils]] :: (g1 ++ .cells true [[.ptr (m.length + 3 + P) 0 0]] :: (g2 ++ G))) ov cs := fun G => by
  have := h1'.down.app (g := .cells true [[.ptr (m.length + 3 + P) 0 0]] :: (g2 ++ G))
  simpa only [List.append_assoc, List.cons_append, List.nil_append] using this
 have nK : ∀ G, Nus (m ++ .cells true [heapV H aw uw sv] :: .cells true [[tv]] :: .cells true [[.nils, .nils, .nils, .nils]] :: (g1 ++ .cells true [[.ptr (m.length + 3 + P) 0 0]] :: (g2 ++ G))) kv K := fun G => by
  have := h2'.down.app (g := .cells true [[.ptr (m.length + 3 + P) 0 0]] :: (g2 ++ G))
  simpa only [List.append_assoc, List.cons_append, List.nil_append] using this
 have nW : ∀ G, Nus (m ++ .cells true [heapV H aw uw sv] :: .cells true [[tv]] :: .cells true [[.nils, .nils, .nils, .nils]] :: (g1 ++ .cells true [[.ptr (m.length + 3 + P) 0 0]] :: (g2 ++ G))) vv W := fun G => by
  have := h3'.down.app (g := .cells true [[.ptr (m.length + 3 + P) 0 0]] :: (g2 ++ G))
  simpa only [List.append_assoc, List.cons_append, List.nil_append] using this
 obtain ⟨q, eq⟩ : ∃ q, m.length + 3 + P = q := ⟨_, rfl⟩
 obtain ⟨p10, e10⟩ : ∃ p, m.length + (g1.length + 1 + 1 + 1) = p := ⟨_, rfl⟩
 rw [e10] at f10 ⊢
 rw [eq] at fP f10 nO nK nW ⊢
 obtain ⟨Y, eY⟩ : ∃ Y, g1 ++ .cells true [[.ptr q 0 0]] :: g2 = Y := ⟨_, rfl⟩
 have eYG : ∀ G, g1 ++ .cells true [[.ptr q 0 0]] :: (g2 ++ G) = Y ++ G := fun G => by rw [← eY]; simp only [List.append_assoc, List.cons_append]
 simp only [eYG] at fP f10 nO nK nW
 rw [eY]
 clear eYG eY e10 eq h1' h2' h3' hP' hA' ecs
 have fP' := PLift.up fP
 have nO' := PLift.up nO
 have nK' := PLift.up nK
 have nW' := PLift.up nW
 clear fP nO nK nW
 have oc := (nO'.down []).ar.2.1
 refine (dead_spec (own := true) (hv := heapV H aw uw sv) (rs := rs) (by have := fP'.down []; rwa [List.append_nil] at this) rfl (by have := nO'.down []; rwa [List.append_nil] at this) hcs'.down (by omega) (by have := nK'.down []; rwa [List.append_nil] at this) (by have := nW'.down []; rwa [List.append_nil] at this) hrs'.down.app (by omega)).mono ?_
 rintro _ _ ⟨⟨hm, rfl⟩ | ⟨hm, rfl⟩, ⟨g3, rfl⟩⟩
 case inr =>
  have no := PLift.up (bad10.down hR'.down hk'.down hsp'.down fun h => hm (by have := h.m; rw [ecs'.down] at this; exact this))
  clear hm
  refine am ?_
  refine into ?_
  refine into ?_
  exact no.down _
 have hm' := PLift.up hm
 clear hm
 refine am ?_
 refine into ?_
 refine (ContainsFuncS_spec (p := fun x => !decide (x.ad = 0 ∨ x.ad ∈ cs)) (Sps.of hs'.down).app (by omega) (fun g x _ => ?_)).mono ?_
 ·have a1 := f10 (g3 ++ g)
  have a2 := fP'.down (g3 ++ g)
  have a3 := nO'.down (g3 ++ g)
  have := Fate1_spec (x := x) (hv := heapV H aw uw sv) a1 a2 rfl a3 hcs'.down (by omega)
  show C S n_model_Fate_1 [.agg [.int .u64 (x.ad : Nat), .int .u8 (x.kd : Nat), .int .u64 (x.tg : Nat)], .ptr p10 0 0] _ _
  simpa only [List.append_assoc, List.cons_append] using this
 rintro _ _ ⟨⟨g4, rfl⟩, rfl⟩
 cases hany : l.any (fun x => !decide (x.ad = 0 ∨ x.ad ∈ cs)) with
 | true =>
  have no := PLift.up (bad10.down hR'.down hk'.down hsp'.down fun h => by
   obtain ⟨x, hx, e⟩ := List.any_eq_true.1 hany
   have h2 := h.a x hx
   rw [ecs'.down] at h2
   have e' : (!decide (x.ad = 0 ∨ x.ad ∈ cs)) = true := e
   rw [decide_eq_true h2] at e'
   cases e')
  clear hany
  refine am ?_
  refine into ?_
  exact no.down _
 | false =>
 have hok : FtOk H ok rs K W l := ⟨hR'.down, hk'.down, hsp'.down, by rw [ecs'.down]; exact hm'.down, fun x hx => by
  rw [List.any_eq_false] at hany
  have := hany x hx
  rw [ecs'.down]
  exact Decidable.or_iff_not_imp_left.2 (by simpa using this)⟩
 have good' := PLift.up (good.down hok)
 have hall' := PLift.up (by have := hok.a; rw [ecs'.down] at this; exact this : ∀ x, x ∈ l → x.ad = 0 ∨ x.ad ∈ cs)
 have f10' := PLift.up (fun G => f10 (g3 ++ (g4 ++ G)))
 have eYG : ∀ G, Y ++ (g3 ++ (g4 ++ G)) = (Y ++ (g3 ++ g4)) ++ G := fun G => by simp only [List.append_assoc]
 have fP2 := fun G => fP'.down (g3 ++ (g4 ++ G))
 have nO2 := fun G => nO'.down (g3 ++ (g4 ++ G))
 have nK2 := fun G => nK'.down (g3 ++ (g4 ++ G))
 have nW2 := fun G => nW'.down (g3 ++ (g4 ++ G))
 have f102 := f10'.down
 simp only [eYG] at fP2 nO2 nK2 nW2 f102
 obtain ⟨Z, eZ⟩ : ∃ Z, Y ++ (g3 ++ g4) = Z := ⟨_, rfl⟩
 simp only [List.append_assoc, List.cons_append]
 rw [eZ] at fP2 nO2 nK2 nW2 f102 ⊢
 clear f10 fP' nO' nK' nW' f10' eYG eZ hany hok good bad2 bad10
 have fP' := PLift.up fP2
 have nO' := PLift.up nO2
 have nK' := PLift.up nK2
 have nW' := PLift.up nW2
 have f0 := f102 []
 have f10' := PLift.up f102
 rw [List.append_nil] at f0
 clear fP2 nO2 nK2 nW2 f102
 refine am ?_
 refine into ?_
 have hd : ∀ i, i < rs.length → nx rs i = 0 ∨ nx rs i ∈ cs := fun i hi => hm'.down _ (List.mem_append_left _ (nx_mem hi))
 have hc : ∀ x, x ∈ cs → ∀ b, nxtM H.a K W x b → b ≠ 0 → b ∈ cs := by
  rintro x hx b (⟨f, hf, h4, rfl⟩ | ⟨i, hi, _, rfl⟩) hne
  ·exact (hcur'.down x hx).2.2.2.2 f hf h4 hne
  ·exact (hm'.down _ (List.mem_append_right _ (List.mem_append_left _ (nx_mem (by omega))))).resolve_left hne
 have hcu : ∀ x, x ∈ cs → x + 1 + H.a x % 256 ≤ H.na ∧ unOk (H.a x) := fun x hx => ⟨(hcur'.down x hx).2.1, (hcur'.down x hx).2.2.1⟩
 have hc' := PLift.up hc
 have hcu' := PLift.up hcu
 have R1 := PLift.up (reach_spec (m := m ++ .cells true [heapV H aw uw sv] :: .cells true [[tv]] :: .cells true [[.nils, .nils, .nils, .nils]] :: Z) (P := q) (own := true) (rv := rv) (rs := rs) (cs := cs) h.app (by have := fP'.down []; rwa [List.append_nil] at this) hcu hc (by omega) (by omega) (by have := nK'.down []; rwa [List.append_nil] at this) (by have := nW'.down []; rwa [List.append_nil] at this) hKW hKl hrs'.down.app (by omega) hd oc)
 clear hd hc hcu f0
 refine R1.down.mono ?_
 rintro lv1 _ ⟨g5, L, rfl, hG5, hs5, hl5, hm5⟩
 have g5s := PLift.up hG5.s
 have l1c := hG5.cell
 have hs5' := PLift.up hs5
 have hm5' := PLift.up hm5
 have nL1 : ∀ G, Nus (m ++ .cells true [heapV H aw uw sv] :: .cells true [[tv]] :: .cells true [[.nils, .nils, .nils, .nils]] :: (Z ++ (g5 ++ G))) lv1 L := fun G => by
  have := g5s.down.app (G := G) _ rfl
  refine Nus.of ?_
  simpa only [List.append_assoc, List.cons_append] using this
 have nL1' := PLift.up nL1
 clear R1 hG5 hs5 hm5 nL1
 simp only [List.append_assoc, List.cons_append]
 refine am ?_
 refine (some_spec (k := 1) (Sps.of hs'.down).app hsl (nL1'.down _) hs5'.down (by omega)).mono ?_
 rintro fv _ ⟨g6, rfl, hF⟩
 have hF' := PLift.up hF
 have fc := hF.cell
 clear hF
 simp only [List.append_assoc, List.cons_append, List.nil_append]
 refine am ?_
 refine (CloneX_spec hrs'.down.app (by omega)).mono ?_
 rintro wv _ ⟨g7, rfl, hX⟩
 have wc := hX.cell
 obtain ⟨Fl, eF⟩ : ∃ Fl, finL l L = Fl := ⟨_, rfl⟩
 have hFl : ∀ x, x ∈ Fl → x ∈ l := fun x hx => by
  rw [← eF] at hx
  exact (List.mem_filter.1 hx).1
 have hFn : Fl.length ≤ 64 := by
  rw [← eF]
  exact Nat.le_trans (List.length_filter_le _ _) hsp'.down.1
 have hF2 : InS (m ++ Blk.cells true [heapV H aw uw sv] :: Blk.cells true [[tv]] :: Blk.cells true [[.nils, .nils, .nils, .nils]] :: (Z ++ (g5 ++ [Blk.cells true [[lv1, .nils, .nils, .nils]]]))).length g6 fv 3 (Fl.map spcV) := by
  rw [← eF]
  exact hF'.down
 have hF2' := PLift.up hF2
 have hFl' := PLift.up hFl
 have eF' := PLift.up eF
 obtain ⟨A, eA⟩ : ∃ A, m ++ Blk.cells true [heapV H aw uw sv] :: Blk.cells true [[tv]] :: Blk.cells true [[.nils, .nils, .nils, .nils]] :: (Z ++ (g5 ++ Blk.cells true [[lv1, .nils, fv, .nils]] :: g6)) = A := ⟨_, rfl⟩
 have eAG : ∀ G, m ++ .cells true [heapV H aw uw sv] :: .cells true [[tv]] :: .cells true [[.nils, .nils, .nils, .nils]] :: (Z ++ (g5 ++ .cells true [[lv1, .nils, fv, .nils]] :: (g6 ++ G))) = A ++ G := fun G => by rw [← eA]; simp only [List.append_assoc, List.cons_append]
 have fvS : ∀ G, Sps (A ++ G) fv Fl := fun G => by
  have := hF2.app (G := G) (m ++ .cells true [heapV H aw uw sv] :: .cells true [[tv]] :: .cells true [[.nils, .nils, .nils, .nils]] :: (Z ++ (g5 ++ [.cells true [[lv1, .nils, fv, .nils]]]))) (by simp)
  refine Sps.of ?_
  rw [← eAG]
  simpa only [List.append_assoc, List.cons_append, List.nil_append] using this
 rw [eA] at hX
 simp only [List.append_assoc, List.cons_append]
 have fvS' := PLift.up fvS
 have hX' := PLift.up hX
 have fa := (fvS g7).ar
 rw [eAG]
 have bf : (A ++ g7)[m.length + (Z.length + g5.length + 1 + 1 + 1)]? = some (.cells true [[lv1, .nils, fv, .nils]]) := by
  rw [← eAG, get_off]
  show (Z ++ (g5 ++ .cells true [[lv1, .nils, fv, .nils]] :: (g6 ++ g7)))[Z.length + g5.length]? = _
  rw [get_off, get_off0]
  rfl
 have eAG' := PLift.up eAG
 clear hF' hF2 hFl eF eA eAG fvS hX
 refine am ?_
 clear bf fa
 have pb := @pushB_mk
 refine range (α := V) Fl.length (fun x => [(3, lv), (8, .ptr (m.length + 2) 0 0), (10, .ptr p10 0 0), (12, .ptr (m.length + (Z.length + g5.length + 1 + 1 + 1)) 0 0), (13, x), (54, fv)]) (fun k x M => ∃ G, M = A ++ G ∧ Gx A.length G x (u64l (rs ++ (Fl.take k).map (·.ad)))) wv ⟨g7, rfl, by rw [List.take_zero]; simpa using hX'.down⟩ ?_ ?_
 ·rintro k x fr _ hk F ⟨G, rfl, hG⟩
  have fa := (fvS'.down G).ar
  obtain ⟨y, ey⟩ : ∃ y, spOf Fl k = y := ⟨_, rfl⟩
  have en : spcV y = [.int .u64 (y.ad : Nat), .int .u8 (y.kd : Nat), .int .u64 (y.tg : Nat)] := rfl
  have xc := hG.cell
  obtain ⟨els, hels⟩ : ∃ els, u64l (rs ++ (Fl.take k).map (·.ad)) = els := ⟨_, rfl⟩
  have hlen : els.length = rs.length + k := by
   rw [← hels]
   simp only [u64l, List.length_map, List.length_append, List.length_take]
   omega
  have hnew : u64l (rs ++ (Fl.take (k + 1)).map (·.ad)) = els ++ [[.int .u64 (y.ad : Nat)]] := by
   rw [List.take_add_one, spOf_get hk, ey, List.map_append, ← List.append_assoc, u64l, List.map_append, ← u64l, hels]
   rfl
  rw [hels] at hG
  obtain ⟨G', k1, _, hp⟩ := hG.push (by simp [roomy]; omega)
  have hp2 := hp [.cells true [[.int .u64 (y.ad : Nat), .int .u8 (y.kd : Nat), .int .u64 (y.tg : Nat)]], .cells true [[.int .u64 (y.ad : Nat)]]]
  simp only [List.append_assoc, List.cons_append, List.nil_append, List.length_append, List.length_cons, List.length_nil] at hp2
  have k1' := PLift.up k1
  have hlen' := PLift.up hlen
  have hnew' := PLift.up hnew
  clear hG k1 hels hlen hnew hp
  refine am ?_
  refine ⟨.slice (A.length + (G.length + 2)) 0 (els.length + 1) (els.length + 1) false 1, byam, _, rfl, ?_⟩
  rw [hnew'.down]
  refine .inl (.inr ⟨G.length + 2, ?_, ?_⟩)
  ·rw [List.length_append]; rfl
  ·rw [← k1'.down, List.getElem?_append_right (by omega), Nat.add_sub_cancel_left]; rfl
 rintro x fr _ F ⟨G, rfl, hG⟩
 rw [List.take_length] at hG
 have xc := hG.cell
 have hml : (moreL rs Fl).length = rs.length + Fl.length := by simp [moreL]
 have nM : Nus (A ++ G) x (moreL rs Fl) := by
  have := hG.sl (G := [])
  rw [List.append_nil] at this
  exact Nus.of this
 rw [← eAG'.down] at nM
 have nM' := PLift.up nM
 have f0 := f10'.down (g5 ++ .cells true [[lv1, .nils, fv, .nils]] :: (g6 ++ G))
 have hd2 : ∀ i, i < (moreL rs Fl).length → nx (moreL rs Fl) i = 0 ∨ nx (moreL rs Fl) i ∈ cs := fun i hi => by
  rcases List.mem_append.1 (show nx (moreL rs Fl) i ∈ rs ++ Fl.map (·.ad) from nx_mem hi) with h1 | h1
  ·exact hm'.down _ (List.mem_append_left _ h1)
  ·obtain ⟨y, hy, e⟩ := List.mem_map.1 h1
   rw [← e]
   exact hall'.down y (hFl'.down y hy)
 have R2 := PLift.up (reach_spec (m := m ++ .cells true [heapV H aw uw sv] :: .cells true [[tv]] :: .cells true [[.nils, .nils, .nils, .nils]] :: (Z ++ (g5 ++ .cells true [[lv1, .nils, fv, .nils]] :: (g6 ++ G)))) (P := q) (own := true) (rv := x) (rs := moreL rs Fl) (cs := cs) h.app (fP'.down _) hcu'.down hc'.down (by omega) (by omega) (nK'.down _) (nW'.down _) hKW hKl nM (by omega) hd2 oc)
 rw [← eAG'.down]
 clear nM hd2 hG pb
 refine am ?_
 refine R2.down.mono ?_
 rintro kv1 _ ⟨g8, Kp, rfl, hG8, hs8, hl8, hm8⟩
 have g8s := PLift.up hG8.s
 have kc := hG8.cell
 have hs8' := PLift.up hs8
 have hm8' := PLift.up hm8
 clear R2 hG8 hs8 hm8 f0
 simp only [List.append_assoc, List.cons_append]
 refine am ?_
 have kN : ∀ r8 b12 X, Nus (m ++ .cells true [heapV H aw uw sv] :: .cells true [[tv]] :: r8 :: (Z ++ (g5 ++ b12 :: (g6 ++ (G ++ (g8 ++ X)))))) kv1 Kp := fun r8 b12 X => by
  have := g8s.down.app (G := X) (m ++ .cells true [heapV H aw uw sv] :: .cells true [[tv]] :: r8 :: (Z ++ (g5 ++ b12 :: (g6 ++ G)))) (by simp)
  refine Nus.of ?_
  simpa only [List.append_assoc, List.cons_append] using this
 have lN : ∀ r8 X, Nus (m ++ .cells true [heapV H aw uw sv] :: .cells true [[tv]] :: r8 :: (Z ++ (g5 ++ X))) lv1 L := fun r8 X => by
  have := g5s.down.app (G := X) (m ++ .cells true [heapV H aw uw sv] :: .cells true [[tv]] :: r8 :: Z) (by simp)
  refine Nus.of ?_
  simpa only [List.append_assoc, List.cons_append] using this
 have fN : ∀ r8 b12 X, Sl (m ++ .cells true [heapV H aw uw sv] :: .cells true [[tv]] :: r8 :: (Z ++ (g5 ++ b12 :: (g6 ++ X)))) fv 3 (Fl.map spcV) := fun r8 b12 X => by
  have := hF2'.down.app (G := X) (m ++ .cells true [heapV H aw uw sv] :: .cells true [[tv]] :: r8 :: (Z ++ (g5 ++ [b12]))) (by simp)
  simpa only [List.append_assoc, List.cons_append, List.nil_append] using this
 have kN' := PLift.up kN
 have lN' := PLift.up lN
 have fN' := PLift.up fN
 clear lN fN
 refine (some_spec (k := 2) (Sps.of hs'.down).app hsl (by have := kN (.cells true [[.nils, .nils, .nils, .nils]]) (.cells true [[lv1, kv1, fv, .nils]]) []; rw [List.append_nil] at this; exact this) hs8'.down (by omega)).mono ?_
 rintro cv _ ⟨g9, rfl, hC⟩
 have hC' := PLift.up hC
 have cc := hC.cell
 clear hC kN
 simp only [List.append_assoc, List.cons_append]
 refine am ?_
 refine good'.down lv1 kv1 fv cv L Kp _ (lN'.down _ _) (kN'.down _ _ _) (by rw [eF'.down]; exact fN'.down _ _ _) ?_ hs5'.down hs8'.down (by omega) (by omega) hm5'.down (by rw [eF'.down]; exact hm8'.down)
 have := hC'.down (m ++ .cells true [heapV H aw uw sv] :: .cells true [[tv]] :: .cells true [[lv1, kv1, fv, cv]] :: (Z ++ (g5 ++ .cells true [[lv1, kv1, fv, cv]] :: (g6 ++ (G ++ g8))))) (by simp)
 simpa only [List.append_assoc, List.cons_append] using this
end Go.AM.G
set_option maxRecDepth 100000
namespace Go.AM.G
open Go Go.AM
def ft0 : FtA := ⟨0, fun _ => 0, 0, fun _ => 0, 0, fun _ => default, 0, fun _ => default⟩
theorem ft0_rd {m : Mem} : FtRd m .nils .nils .nils .nils ft0 := ⟨.inl ⟨rfl, rfl⟩, .inl ⟨rfl, rfl⟩, .inl ⟨rfl, rfl⟩, .inl ⟨rfl, rfl⟩, by decide, by decide, by decide, by decide⟩
theorem spRight.pos {l : List Spc} (h : spRight l) {x : Spc} (hx : x ∈ l) : x.ad ≠ 0 := by
 obtain ⟨i, hi, e⟩ := List.getElem_of_mem hx
 have := (h.2.2 i hi).1
 rw [show spOf l i = x by unfold spOf; rw [List.getD_eq_getElem?_getD, List.getElem?_eq_getElem hi]; exact e] at this
 simp [oneP] at this
 omega
end Go.AM.G
