/- law31.GraphReaches, on the abstract machine. -/
import Derived.Test.YtnpefpiggklimaaGreatHqG
import Derived.Test.YtnpefpiggklimaaGreatHgX
import Derived.Test.YtnpefpiggklimaaGreatHmE
set_option linter.unusedVariables false
set_option linter.unusedSimpArgs false
set_option maxRecDepth 100000
namespace Go.AM.G
open Go Go.AM
theorem mOk_roots {cs rs : List Nat} : mOk cs rs [] [] ↔ rootsOk cs rs rs.length := by
  unfold mOk rootsOk
  simp only [List.append_nil]
  constructor
  · intro h i hi hne
    exact (h _ (nx_mem hi)).resolve_left hne
  · intro h a ha
    obtain ⟨i, hi, rfl⟩ := nx_of ha
    by_cases e : nx rs i = 0
    · exact .inl e
    · exact .inr (h i hi e)
theorem sl_rd {m : Mem} {v : V} {z : Nat} {els : List (List V)} (h : Sl m v z els) : Rd m v z els.length (fun i => els.getD i []) := by
  refine .inl ?_
  have e : (List.range els.length).map (fun i => els.getD i []) = els := by
    apply List.ext_getElem?
    intro i
    simp only [List.getElem?_map, List.getElem?_range]
    by_cases hi : i < els.length
    · simp [hi, List.getD_eq_getElem?_getD]
    · simp [hi]
  rw [e]; exact h
theorem GraphReaches_spec {m : Mem} {aw uw sv rv : V} {va vm : Nat → V} {H : HeapA} {rs : List Nat} (h : HpRd m aw uw sv va vm H) (hr : Nus m rv rs) (hl : rs.length ≤ 17592186044416) : C S n_law31_GraphReaches [.agg (heapV H aw uw sv), rv] m (fun r _ => r = .bool true) := by
  have A := h.a.ar.2.1
  have B := h.u.ar.2.1
  have D := h.s.s.ar.2.1
  have A1 := hr.ar.2.1
  refine fn rfl ?_
  refine (lives_spec).mono ?_
  rintro _ _ ⟨rfl, rfl⟩
  refine am ?_
  refine (Of_spec h.app hr.app hl).mono ?_
  rintro _ _ ⟨ho, ⟨g1, rfl⟩⟩
  have hM := fun G => MReach_spec (m := m ++ Blk.cells true [heapV H aw uw sv] :: (g1 ++ G)) (rs := rs) (K := []) (W := []) (ok := True) (tv := .nils) h.app rfl All_nil rfl (by simp) hr.app (by simpa using hl)
  have hM' := PLift.up hM
  clear hM
  rcases ho with ⟨hno, rfl⟩ | ⟨hR, hno, rfl⟩ | ⟨hR, hok, nv, rv', rfl, hG⟩
  · have hno' := PLift.up hno
    clear hno
    refine am ?_
    refine (hM'.down _).mono ?_
    rintro r _ ⟨g2, rfl, ⟨_, rfl⟩ | ⟨h1, _⟩ | ⟨h1, _⟩⟩
    · have e1 : eqV .bool (.bool false) (.bool false) = some true := rfl
      refine am ?_
      trivial
    · exact absurd h1 hno'.down
    · exact absurd h1 hno'.down
  · have hno' := PLift.up hno
    have hR' := PLift.up hR
    clear hno hR
    refine am ?_
    refine (hM'.down _).mono ?_
    rintro r _ ⟨g2, rfl, ⟨h1, rfl⟩ | ⟨_, _, _, rfl⟩ | ⟨_, _, h1, _⟩⟩
    · exact absurd ⟨hR'.down, trivial⟩ h1
    · have e1 : eqV .bool (.bool false) (.bool false) = some true := rfl
      refine am ?_
      trivial
    · exact absurd (mOk_roots.1 h1) hno'.down
  · have hw := hR.2.1.wide hR.1 h.wa
    have hcs := curs_rise (rises_pair hw.rises)
    have hcl : (curs (obs H H.ns)).length ≤ 2048 := Nat.le_trans curs_len (obs_small hR.1)
    have hcur : Cur H.a (curs (obs H H.ns)) := fun a ha => by
      have := HeapA.right.cur hR h.wa (a := a) ha
      exact ⟨this.1, this.2.2.1.2.1, this.2.2.2.2⟩
    have hro := hR
    obtain ⟨cs, ecs⟩ : ∃ cs, curs (obs H H.ns) = cs := ⟨_, rfl⟩
    have ecs' := PLift.up ecs
    rw [ecs] at hcs hcl hcur hok hG
    have hval := graph_valid hcs (by omega) hcur hok
    have hsame := fun l L => @reach_same H.a cs rs hcs hcur hok l L
    have hGr := hG.gr
    obtain ⟨_, els, hn1, hn2, hn3⟩ := hG
    have hRd := sl_rd hn1
    rw [hn2] at hRd
    have hNl : (cs.map (ndOf H.a cs)).length = cs.length := by simp
    rw [hNl] at hRd
    have hel : ∀ p, p < cs.length → ∃ w tv, els.getD p [] = [.int .u64 (nx cs p : Nat), .int .i64 (w : Nat), tv] := fun p hp => by
      obtain ⟨tv, e1, _⟩ := hn3 p (ndOf H.a cs (nx cs p)) (by rw [List.getElem?_map, nx_get hp]; rfl)
      exact ⟨_, tv, by rw [List.getD_eq_getElem?_getD, e1]; rfl⟩
    have nc := hn1.cell
    have rc := hGr.cells.2
    have hFits : Fits ((cs.map (ndOf H.a cs)).map toA) (ints' (setN (rootsTo cs rs rs.length))) := by
      refine ⟨by simp; omega, ?_, fun x hx => ?_⟩
      · have h1 := @setN_le (rootsTo cs rs rs.length)
        have h2 := @rootsTo_le cs rs rs.length
        simp only [List.length_map]; omega
      · obtain ⟨y, hy, rfl⟩ := List.mem_map.1 hx
        obtain ⟨z, hz, rfl⟩ := List.mem_map.1 hy
        have h1 := @setN_le (refsTo H.a cs z (H.a z % 256))
        have h2 := @refsTo_le H.a cs z (H.a z % 256)
        have h3 := (hcur z hz).2.1
        show (ints' (setN (refsTo H.a cs z (H.a z % 256)))).length < _
        simp only [List.length_map]; omega
    obtain ⟨N, eN⟩ : ∃ N, (cs.map (ndOf H.a cs)).map toA = N := ⟨_, rfl⟩
    obtain ⟨R, eR⟩ : ∃ R, ints' (setN (rootsTo cs rs rs.length)) = R := ⟨_, rfl⟩
    have hNlen : N.length = cs.length := by rw [← eN]; simp
    rw [eN, eR] at hval hGr hFits hsame
    have hval' := PLift.up hval
    have hGr' := PLift.up hGr
    have hFits' := PLift.up hFits
    have hsame' := PLift.up hsame
    have hRd' := PLift.up hRd
    have hel' := PLift.up hel
    have hR' := PLift.up hR
    have hNlen' := PLift.up hNlen
    have hok' := PLift.up hok
    clear hval hGr hFits hsame hRd hel hR hNlen hn1 hn2 hn3 hcs hcur hok hw hro ecs eN eR hNl
    refine am ?_
    refine (hM'.down _).mono ?_
    rintro r _ ⟨g2, rfl, ⟨h1, _⟩ | ⟨_, _, h1, _⟩ | ⟨_, _, _, v, L, rfl, hGL, hLs, hLl, hLm⟩⟩
    · exact absurd ⟨hR'.down, trivial⟩ h1
    · rw [ecs'.down] at h1
      exact absurd (mOk_roots.2 hok'.down) h1
    have vc := hGL.cell
    have hNL : ∀ X, Nus (m ++ Blk.cells true [heapV H aw uw sv] :: (g1 ++ Blk.cells true [[nv, rv']] :: (g2 ++ X))) v L := fun X => by
      have := Gw.sl (G := X) (A := m ++ Blk.cells true [heapV H aw uw sv] :: (g1 ++ [Blk.cells true [[nv, rv']]])) hGL
      refine Nus.of ?_
      simpa only [List.append_assoc, List.cons_append, List.nil_append] using this
    have hNL' := PLift.up hNL
    have hLs' := PLift.up hLs
    have hLm' := PLift.up hLm
    clear hGL hNL hLs hLm
    refine am ?_
    refine (Reached_spec (hGr'.down.grow (M' := m ++ Blk.cells true [heapV H aw uw sv] :: (g1 ++ Blk.cells true [[nv, rv']] :: g2)) ⟨Blk.cells true [[nv, rv']] :: g2, by simp only [List.append_assoc, List.cons_append, List.nil_append]⟩) hFits'.down).mono ?_
    rintro r _ ⟨⟨g3, rfl⟩, ⟨hv, _⟩ | ⟨_, v2, l, rfl, hv2, hlp, hll, hlm⟩⟩
    · rw [hval'.down] at hv; cases hv
    have hlL := hsame'.down l L hlp hlm hLs'.down hLm'.down
    have hln : l.length = L.length := by rw [← hlL]; simp
    have hlb : ∀ k, k < l.length → nx l k < cs.length := fun k hk => by have := ((hlm _).1 (nx_mem hk)).1; rw [hNlen'.down] at this; exact this
    have hLk : ∀ k, k < l.length → nx L k = nx cs (nx l k) := fun k hk => by
      have : (l.map (nx cs))[k]? = some (nx cs (nx l k)) := by rw [List.getElem?_map, nx_get hk]; rfl
      rw [hlL] at this
      simp [nx, List.getD_eq_getElem?_getD, this]
    have v2c := hv2.cell
    have hll2 : l.length ≤ 2048 := by have := hNlen'.down; omega
    have hv2' := PLift.up hv2
    have hlb' := PLift.up hlb
    have hLk' := PLift.up hLk
    have hNLa := (hNL'.down g3).ar
    have hlen2 : asLen v2 = some (.int .i64 (l.length : Nat)) := by have := hv2.len; rwa [List.length_map] at this
    have hln' := PLift.up hln
    clear hv2 hlp hll hlm hlL hlb hLk hLs' hLm' hsame'
    rw [← hln] at hNLa
    obtain ⟨q1, _⟩ := hNLa
    clear hln
    refine am ?_
    refine (Objects_spec h.app).mono ?_
    rintro _ _ (⟨_, g4, v3, rfl, rfl, hG3⟩ | ⟨hno, _⟩)
    case inr => exact absurd hR'.down hno
    rw [ecs'.down] at hG3
    have hlen3 : asLen v3 = some (.int .i64 (cs.length : Nat)) := by
      have := (Gw.sl (A := m ++ Blk.cells true [heapV H aw uw sv] :: (g1 ++ Blk.cells true [[nv, rv']] :: g2 ++ g3)) (G := []) hG3.cast).len
      rwa [List.length_map] at this
    have v3c := hG3.cell
    have hlenN : asLen nv = some (.int .i64 (cs.length : Nat)) := hRd'.down.ar.1
    have c1 : ((l.length : Int) = (l.length : Int)) = True := eq_true rfl
    have c2 : ((cs.length : Int) = (cs.length : Int)) = True := eq_true rfl
    clear hG3
    refine am ?_
    refine (Check_spec (hGr'.down.grow (M' := m ++ Blk.cells true [heapV H aw uw sv] :: (g1 ++ Blk.cells true [[nv, rv']] :: (g2 ++ (g3 ++ g4)))) ⟨Blk.cells true [[nv, rv']] :: (g2 ++ (g3 ++ g4)), by simp only [List.append_assoc, List.cons_append, List.nil_append]⟩) hFits'.down).mono ?_
    rintro _ _ ⟨rfl, ⟨g5, rfl⟩⟩
    rw [hval'.down, if_pos rfl]
    refine am ?_
    refine range (α := Unit) l.length (fun _ => [(5, .ptr (m.length + (g1.length + 1)) 0 0), (7, v), (83, v2)]) (fun k _ M => ∃ g, M = m ++ Blk.cells true [heapV H aw uw sv] :: (g1 ++ Blk.cells true [[nv, rv']] :: (g2 ++ (g3 ++ g)))) () ⟨_, rfl⟩ ?_ ?_
    · rintro k _ fr _ hk F ⟨g, rfl⟩
      have a1 := (hNL'.down (g3 ++ g)).ar
      have a2 := (hRd'.down.app (g := Blk.cells true [[nv, rv']] :: (g2 ++ (g3 ++ g)))).ar
      have a3 := (Nis.of (hv2'.down.app (g := g))).ar
      simp only [List.append_assoc, List.cons_append, List.nil_append] at a2 a3
      have hp := hlb'.down k hk
      obtain ⟨w, tv, e1⟩ := hel'.down _ hp
      have e2 := hLk'.down k hk
      have hkL : k < L.length := by rw [← hln'.down]; exact hk
      have c3 : ((nx cs (nx l k) : Int) = (nx cs (nx l k) : Int)) = True := eq_true rfl
      clear q1 hlen2 hlen3 hlenN
      refine am ?_
      exact ⟨(), byam, _, rfl⟩
    · rintro _ fr _ F ⟨g, rfl⟩
      refine am ?_
      trivial
end Go.AM.G
