/- law11.ModelNone, on the abstract machine. -/
import Derived.Test.YtkimcedmfnoeoaaGreatDoorHmG
set_option linter.unusedVariables false
set_option linter.unusedSimpArgs false
set_option maxRecDepth 100000
namespace Go.AM.G
open Go Go.AM
theorem Rcb.sub {rt rt' : List Nat} {nxt : Nat → Nat → Prop} {a : Nat} (h : ∀ x, x ∈ rt → x ∈ rt') (k : Rcb rt nxt a) : Rcb rt' nxt a := by
  induction k with
  | root h1 h2 => exact .root (h _ h1) h2
  | step _ h2 h3 ih => exact .step ih h2 h3
theorem Rcb.none {nxt : Nat → Nat → Prop} {a : Nat} (k : Rcb [] nxt a) : False := by
  induction k with
  | root h1 _ => simp at h1
  | step _ _ _ ih => exact ih
theorem mOk.sub {cs rs rs' K W : List Nat} (h : ∀ x, x ∈ rs' → x ∈ rs) (k : mOk cs rs K W) : mOk cs rs' K W := fun a ha => by
  rcases List.mem_append.1 ha with ha | ha
  · exact k a (List.mem_append_left _ (h a ha))
  · exact k a (List.mem_append_right _ ha)
theorem ModelNone_spec {m : Mem} {aw uw sv tv rv : V} {va vm : Nat → V} {H : HeapA} {ok : Prop} {rs K W : List Nat} (h : HpRd m aw uw sv va vm H) (hrs : Nus m rv rs) (hrl : rs.length + 128 ≤ 17592186044416) (ht : tv.isCell = true) (hA : EphAll m tv ok K W) (hKW : K.length = W.length) (hKl : K.length ≤ 64) :
    C S n_law11_ModelNone [.agg (heapV H aw uw sv), rv, .agg [tv]] m (fun r _ => r = .bool true) := by
  have A := h.a.ar.2.1
  have B := h.u.ar.2.1
  have D := h.s.s.ar.2.1
  have A1 := hrs.ar
  have pb := @pushB_mk
  have hA' := PLift.up hA
  clear hA
  refine fn rfl ?_
  refine (lives_spec).mono ?_
  rintro _ _ ⟨rfl, rfl⟩
  refine am ?_
  refine (MReach_spec (rs := []) h.app ht hA'.down.app hKW (by omega) (.inl ⟨rfl, rfl⟩) (by simp; omega)).mono ?_
  rintro _ _ ⟨g1, rfl, ⟨hno, rfl⟩ | ⟨_, _, hno, rfl⟩ | ⟨hR, hok, hm0, v1, L1, rfl, hG1, _, _, hL1⟩⟩
  · clear hno
    refine am ?_
    trivial
  · clear hno
    refine am ?_
    trivial
  have e1 : L1 = [] := by
    cases L1 with
    | nil => rfl
    | cons a l => exact ((hL1 a).1 (by simp)).none.elim
  subst e1
  have v1c := hG1.cell
  have hv1 : v1 = .nils ∨ ∃ j, v1 = .slice (m.length + 2 + j) 0 0 0 false 1 := by
    rcases hG1 with ⟨h1, _⟩ | ⟨j, h1, _⟩
    · exact .inl h1
    · exact .inr ⟨j, h1.trans (by simp)⟩
  have l1 : asLen v1 = some (.int .i64 0) := by
    rcases hv1 with rfl | ⟨j, rfl⟩ <;> rfl
  have hR' := PLift.up hR
  have hok' := PLift.up hok
  obtain ⟨cs, ecs⟩ : ∃ cs, curs (obs H H.ns) = cs := ⟨_, rfl⟩
  have ecs' := PLift.up ecs
  have w1 : IntKind.i64.wrap ((rs.length : Int) - 1) = (rs.length : Int) - 1 := by rw [wrap_i64] <;> omega
  clear hG1 hL1 hv1 hR hok hm0 ecs
  refine am ?_
  let I := fun (d : Nat) (fr : Frame) (M : Mem) => ∃ (v : V) (l : List Nat) (G : Mem), d + l.length = rs.length ∧ M = m ++ .cells true [heapV H aw uw sv] :: .cells true [[tv]] :: (g1 ++ G) ∧ Gw (m.length + (g1.length + 2)) G v 1 (u64l l) ∧ (∀ x, x ∈ l → x ∈ rs) ∧ (∀ p, d ≤ p → p < rs.length → nx rs p ∈ l) ∧ Has fr [(1, rv), (3, .ptr m.length 0 0), (5, .ptr (m.length + 1) 0 0), (7, v1), (9, v), (10, .int .i64 ((d : Int) - 1))]
  refine W_loop I ?_ rs.length ⟨.nils, [], [], rfl, by simp, .inl ⟨rfl, rfl⟩, fun x hx => by simp at hx, fun p h1 h2 => by omega, byam⟩
  rintro d fr _ ⟨v, l, G, hd, rfl, hG, hsub, hsup, F⟩
  have vc := hG.cell
  have vb := hG.beq
  have hG' := PLift.up hG
  have hsub' := PLift.up hsub
  have hsup' := PLift.up hsup
  clear hsub hsup
  cases d with
  | succ d =>
    have hlen : (u64l l).length = l.length := by simp
    obtain ⟨els, hels⟩ : ∃ els, u64l l = els := ⟨_, rfl⟩
    have hels' := PLift.up hels
    rw [hels] at hG hlen
    obtain ⟨G', k1, _, hp⟩ := Gw.push (A := m ++ .cells true [heapV H aw uw sv] :: .cells true [[tv]] :: g1) (zero := [.int .u64 0]) (bytes := 8) (hG.cast) rfl (by simp [roomy]; omega)
    simp only [List.append_assoc, List.cons_append, List.nil_append, List.length_append, List.length_cons, List.length_nil] at hp
    have k1' := PLift.up k1
    have A2 := (hrs.app (g := .cells true [heapV H aw uw sv] :: .cells true [[tv]] :: (g1 ++ G))).ar
    have hdl : d < rs.length := by omega
    have e10 : ((d + 1 : Nat) : Int) - 1 = ((d : Nat) : Int) := by omega
    rw [e10] at F
    have c1 : ((0 : Int) ≤ (d : Int)) = True := eq_true (by omega)
    have w2 : IntKind.i64.wrap ((d : Int) - 1) = (d : Int) - 1 := by rw [wrap_i64] <;> omega
    clear hG k1 hels hlen e10
    refine into ?_
    refine ⟨_, Nat.lt_succ_self d, .slice (m.length + (g1.length + 1 + 1) + (G.length + 1)) 0 (els.length + 1) (els.length + 1) false 1, l ++ [nx rs d], _, ?_, rfl, ?_, fun x hx => ?_, fun p h1 h2 => ?_, byam⟩
    · rw [List.length_append]; simp; omega
    · rw [u64l, List.map_append, ← u64l, hels'.down]
      refine .inr ⟨G.length + 1, ?_, ?_⟩
      · rw [List.length_append]; rfl
      · rw [← k1'.down]; exact byam
    · rcases List.mem_append.1 hx with hx | hx
      · exact hsub'.down x hx
      · rw [List.mem_singleton.1 hx]; exact nx_mem hdl
    · by_cases e : p = d
      · subst e; simp
      · exact List.mem_append_left _ (hsup'.down p (by omega) h2)
  | zero =>
    have hiff : ∀ x, x ∈ l ↔ x ∈ rs := fun x => ⟨hsub'.down x, fun hx => by obtain ⟨i, hi, rfl⟩ := nx_of hx; exact hsup'.down i (Nat.zero_le _) hi⟩
    have hll : l.length = rs.length := by omega
    have hiff' := PLift.up hiff
    have c1 : ((0 : Int) ≤ ((0 : Nat) : Int) - 1) = False := eq_false (by omega)
    have hN : ∀ X, Nus (m ++ .cells true [heapV H aw uw sv] :: .cells true [[tv]] :: (g1 ++ (G ++ X))) v l := fun X => by
      have := Gw.sl (G := X) (A := m ++ .cells true [heapV H aw uw sv] :: .cells true [[tv]] :: g1) hG.cast
      refine Nus.of ?_
      simpa only [List.append_assoc, List.cons_append, List.nil_append] using this
    have hN' := PLift.up hN
    have lc := hG.cell
    have hll' := PLift.up hll
    clear hG hiff hN hsub' hsup' hll
    obtain ⟨lb, elb⟩ : ∃ lb, rs = lb := ⟨_, rfl⟩
    have hRa := fun X => MReach_spec (rs := rs) (K := K) (W := W) (ok := ok) (tv := tv) (rv := rv) (h.app (g := .cells true [heapV H aw uw sv] :: .cells true [[tv]] :: (g1 ++ X))) ht hA'.down.app hKW (by omega) hrs.app (by omega)
    have hRb := fun X => MReach_spec (rs := l) (K := K) (W := W) (ok := ok) (tv := tv) (rv := v) (h.app (g := .cells true [heapV H aw uw sv] :: .cells true [[tv]] :: (g1 ++ (G ++ X)))) ht hA'.down.app hKW (by omega) (hN'.down X) (by rw [hll'.down]; omega)
    have hRa' := PLift.up hRa
    have hRb' := PLift.up hRb
    clear hRa hRb elb
    refine into ?_
    refine (hRa'.down G).mono ?_
    rintro ra _ ⟨ga, rfl, ha⟩
    simp only [List.append_assoc, List.cons_append]
    have hfin : ∀ (va vb : V) (La Lb : List Nat) (ea eb : Int) (Gb : Mem), True := fun _ _ _ _ _ _ _ => trivial
    clear hfin
    rcases ha with ⟨hno, _⟩ | ⟨_, _, hno, rfl⟩ | ⟨_, _, hma, va2, La, rfl, hGa, hsa, hla, hLa⟩
    · exact absurd ⟨hR'.down, hok'.down⟩ hno
    · have hno' := PLift.up hno
      clear hno
      refine am ?_
      refine (hRb'.down ga).mono ?_
      rintro rb _ ⟨gb, rfl, ⟨hno, _⟩ | ⟨_, _, _, rfl⟩ | ⟨_, _, hmb, _⟩⟩
      · exact absurd ⟨hR'.down, hok'.down⟩ hno
      · refine am ?_
        refine range (α := Unit) 0 (fun _ => []) (fun _ _ _ => True) () trivial ?_ ?_
        · rintro k _ fr _ hk F _
          exact absurd hk (Nat.not_lt_zero _)
        · rintro _ fr _ F _
          refine am ?_
          trivial
      · exact absurd (hmb.sub fun x hx => (hiff'.down x).2 hx) hno'.down
    · have hma' := PLift.up hma
      have hsa' := PLift.up hsa
      have hLa' := PLift.up hLa
      have vac := hGa.cell
      have hNa : ∀ X, Nus (m ++ .cells true [heapV H aw uw sv] :: .cells true [[tv]] :: (g1 ++ (G ++ (ga ++ X)))) va2 La := fun X => by
        have := Gw.sl (G := X) (A := m ++ .cells true [heapV H aw uw sv] :: .cells true [[tv]] :: (g1 ++ G)) hGa
        refine Nus.of ?_
        simpa only [List.append_assoc, List.cons_append, List.nil_append] using this
      have hNa' := PLift.up hNa
      clear hma hsa hLa hGa hNa
      refine am ?_
      refine (hRb'.down ga).mono ?_
      rintro rb _ ⟨gb, rfl, ⟨hno, _⟩ | ⟨_, _, hno, _⟩ | ⟨_, _, hmb, vb2, Lb, rfl, hGb, hsb, hlb, hLb⟩⟩
      · exact absurd ⟨hR'.down, hok'.down⟩ hno
      · exact absurd (hma'.down.sub fun x hx => (hiff'.down x).1 hx) hno
      · have eLb : Lb = La := rise_ext hsb hsa'.down fun x => by
          rw [hLb, hLa'.down]
          exact ⟨Rcb.sub fun x hx => (hiff'.down x).1 hx, Rcb.sub fun x hx => (hiff'.down x).2 hx⟩
        subst eLb
        have vbc := hGb.cell
        have hNb : Nus (m ++ .cells true [heapV H aw uw sv] :: .cells true [[tv]] :: (g1 ++ (G ++ (ga ++ gb)))) vb2 Lb := by
          have := Gw.sl (G := []) (A := m ++ .cells true [heapV H aw uw sv] :: .cells true [[tv]] :: (g1 ++ (G ++ ga))) (g := gb) (by simpa only [List.append_assoc, List.cons_append] using hGb)
          refine Nus.of ?_
          simpa only [List.append_assoc, List.cons_append, List.nil_append, List.append_nil] using this
        have n1 := (hNa'.down gb).ar
        have n2 := hNb.ar
        have cl : ((Lb.length : Int) = (Lb.length : Int)) = True := eq_true rfl
        simp only [List.append_assoc, List.cons_append]
        clear hsb hLb hGb hmb hNb
        refine am ?_
        refine range (α := Unit) Lb.length (fun _ => [(11, va2), (13, vb2)]) (fun _ M => fun M' => M' = m ++ .cells true [heapV H aw uw sv] :: .cells true [[tv]] :: (g1 ++ (G ++ (ga ++ gb)))) () rfl ?_ ?_
        · rintro k _ fr _ hk F rfl
          have c3 : ((nx Lb k : Int) = (nx Lb k : Int)) = True := eq_true rfl
          refine am ?_
          exact ⟨(), byam, rfl⟩
        · rintro _ fr _ F _
          refine am ?_
          trivial
end Go.AM.G
