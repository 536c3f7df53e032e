/- law11.ModelNone, on the abstract machine. -/
import Derived.Test.YtkimcedmfnoeoaaGreatDoorHmG
import Derived.Test.YtkimcedmfnoeoaaGreatDoorHpB
set_option linter.unusedVariables false
set_option linter.unusedSimpArgs false

set_option maxRecDepth 100000
namespace Go.AM.G
open Go Go.AM
theorem Rcb.sub {rt rt' : List Nat} {nxt : Nat → Nat → Prop} {a : Nat} (h : ∀ x, x ∈ rt → x ∈ rt') (k : Rcb rt nxt a) : Rcb rt' nxt a := by
  induction k with
  | root h1 h2 => exact .root (h _ h1) h2
  | step _ h2 h3 ih => exact .step ih h2 h3
theorem Rcb.none {nxt : Nat → Nat → Prop} {a : Nat} (k : Rcb [] nxt a) : False := by
  induction k with
  | root h1 _ => simp at h1
  | step _ _ _ ih => exact ih
theorem mOk.sub {cs rs rs' K W : List Nat} (h : ∀ x, x ∈ rs' → x ∈ rs) (k : mOk cs rs K W) : mOk cs rs' K W := fun a ha => by
  rcases List.mem_append.1 ha with ha | ha
  · exact k a (List.mem_append_left _ (h a ha))
  · exact k a (List.mem_append_right _ ha)
theorem ModelNone_spec {m : Mem} {aw uw sv tv rv : V} {va vm : Nat → V} {H : HeapA} {ok : Prop} {rs K W : List Nat} (h : HpRd m aw uw sv va vm H) (hrs : Nus m rv rs) (hrl : rs.length + 128 ≤ 17592186044416) (ht : tv.isCell = true) (hA : EphAll m tv ok K W) (hKW : K.length = W.length) (hKl : K.length ≤ 64) :
    C S n_law11_ModelNone [.agg (heapV H aw uw sv), rv, .agg [tv]] m (fun r _ => r = .bool true) := by
  have A := h.a.ar.2.1
  have B := h.u.ar.2.1
  have D := h.s.s.ar.2.1
  have A1 := hrs.ar
  have pb := @pushB_mk
  have hA' := PLift.up hA
  clear hA
  refine fn rfl ?_
  refine (lives_spec).mono ?_
  rintro _ _ ⟨rfl, rfl⟩
  refine am ?_
  refine (MReach_spec (rs := []) h.app ht hA'.down.app hKW (by omega) (.inl ⟨rfl, rfl⟩) (by simp; omega)).mono ?_
  rintro _ _ ⟨g1, rfl, ⟨hno, rfl⟩ | ⟨_, _, hno, rfl⟩ | ⟨hR, hok, hm0, v1, L1, rfl, hG1, _, _, hL1⟩⟩
  · clear hno
    refine am ?_
    trivial
  · clear hno
    refine am ?_
    trivial
  have e1 : L1 = [] := by
    cases L1 with
    | nil => rfl
    | cons a l => exact ((hL1 a).1 (by simp)).none.elim
  subst e1
  have v1c := hG1.cell
  have hv1 : v1 = .nils ∨ ∃ j, v1 = .slice (m.length + 2 + j) 0 0 0 false 1 := by
    rcases hG1 with ⟨h1, _⟩ | ⟨j, h1, _⟩
    · exact .inl h1
    · exact .inr ⟨j, h1.trans (by simp)⟩
  have l1 : asLen v1 = some (.int .i64 0) := by
    rcases hv1 with rfl | ⟨j, rfl⟩ <;> rfl
  have hR' := PLift.up hR
  have hok' := PLift.up hok
  obtain ⟨cs, ecs⟩ : ∃ cs, curs (obs H H.ns) = cs := ⟨_, rfl⟩
  have ecs' := PLift.up ecs
  have w1 : IntKind.i64.wrap ((rs.length : Int) - 1) = (rs.length : Int) - 1 := by rw [wrap_i64] <;> omega
  clear hG1 hL1 hv1 hR hok hm0 ecs
  refine am ?_
  let I := fun (d : Nat) (fr : Frame) (M : Mem) => ∃ (v : V) (l : List Nat) (G : Mem), d + l.length = rs.length ∧ M = m ++ .cells true [heapV H aw uw sv] :: .cells true [[tv]] :: (g1 ++ G) ∧ Gw (m.length + (g1.length + 2)) G v 1 (u64l l) ∧ (∀ x, x ∈ l → x ∈ rs) ∧ (∀ p, d ≤ p → p < rs.length → nx rs p ∈ l) ∧ Has fr [(1, rv), (3, .ptr m.length 0 0), (5, .ptr (m.length + 1) 0 0), (7, v1), (9, v), (10, .int .i64 ((d : Int) - 1))]
  refine W_loop I ?_ rs.length ⟨.nils, [], [], rfl, by simp, .inl ⟨rfl, rfl⟩, fun x hx => by simp at hx, fun p h1 h2 => by omega, byam⟩
  rintro d fr _ ⟨v, l, G, hd, rfl, hG, hsub, hsup, F⟩
  have vc := hG.cell
  have vb := hG.beq
  have hG' := PLift.up hG
  have hsub' := PLift.up hsub
  have hsup' := PLift.up hsup
  clear hsub hsup
  cases d with
  | succ d =>
    have hlen : (u64l l).length = l.length := by simp
    obtain ⟨els, hels⟩ : ∃ els, u64l l = els := ⟨_, rfl⟩
    have hels' := PLift.up hels
    rw [hels] at hG hlen
    obtain ⟨G', k1, _, hp⟩ := Gw.push (A := m ++ .cells true [heapV H aw uw sv] :: .cells true [[tv]] :: g1) (zero := [.int .u64 0]) (bytes := 8) (hG.cast) rfl (by simp [roomy]; omega)
    simp only [List.append_assoc, List.cons_append, List.nil_append, List.length_append, List.length_cons, List.length_nil] at hp
    have k1' := PLift.up k1
    have A2 := (hrs.app (g := .cells true [heapV H aw uw sv] :: .cells true [[tv]] :: (g1 ++ G))).ar
    have hdl : d < rs.length := by omega
    have e10 : ((d + 1 : Nat) : Int) - 1 = ((d : Nat) : Int) := by omega
    rw [e10] at F
    have c1 : ((0 : Int) ≤ (d : Int)) = True := eq_true (by omega)
    have w2 : IntKind.i64.wrap ((d : Int) - 1) = (d : Int) - 1 := by rw [wrap_i64] <;> omega
    clear hG k1 hels hlen e10
    refine into ?_
    refine ⟨_, Nat.lt_succ_self d, .slice (m.length + (g1.length + 1 + 1) + (G.length + 1)) 0 (els.length + 1) (els.length + 1) false 1, l ++ [nx rs d], _, ?_, rfl, ?_, fun x hx => ?_, fun p h1 h2 => ?_, byam⟩
    · rw [List.length_append]; simp; omega
    · rw [u64l, List.map_append, ← u64l, hels'.down]
      refine .inr ⟨G.length + 1, ?_, ?_⟩
      · rw [List.length_append]; rfl
      · rw [← k1'.down]; exact byam
    · rcases List.mem_append.1 hx with hx | hx
      · exact hsub'.down x hx
      · rw [List.mem_singleton.1 hx]; exact nx_mem hdl
    · by_cases e : p = d
      · subst e; simp
      · exact List.mem_append_left _ (hsup'.down p (by omega) h2)
  | zero =>
    have hiff : ∀ x, x ∈ l ↔ x ∈ rs := fun x => ⟨hsub'.down x, fun hx => by obtain ⟨i, hi, rfl⟩ := nx_of hx; exact hsup'.down i (Nat.zero_le _) hi⟩
    have hll : l.length = rs.length := by omega
    have hiff' := PLift.up hiff
    have c1 : ((0 : Int) ≤ ((0 : Nat) : Int) - 1) = False := eq_false (by omega)
    have hN : ∀ X, Nus (m ++ .cells true [heapV H aw uw sv] :: .cells true [[tv]] :: (g1 ++ (G ++ X))) v l := fun X => by
      have := Gw.sl (G := X) (A := m ++ .cells true [heapV H aw uw sv] :: .cells true [[tv]] :: g1) hG.cast
      refine Nus.of ?_
      simpa only [List.append_assoc, List.cons_append, List.nil_append] using this
    have hN' := PLift.up hN
    have lc := hG.cell
    have hll' := PLift.up hll
    clear hG hiff hN hsub' hsup' hll
    obtain ⟨lb, elb⟩ : ∃ lb, rs = lb := ⟨_, rfl⟩
    have hRa := fun X => MReach_spec (rs := rs) (K := K) (W := W) (ok := ok) (tv := tv) (rv := rv) (h.app (g := .cells true [heapV H aw uw sv] :: .cells true [[tv]] :: (g1 ++ X))) ht hA'.down.app hKW (by omega) hrs.app (by omega)
    have hRb := fun X => MReach_spec (rs := l) (K := K) (W := W) (ok := ok) (tv := tv) (rv := v) (h.app (g := .cells true [heapV H aw uw sv] :: .cells true [[tv]] :: (g1 ++ (G ++ X)))) ht hA'.down.app hKW (by omega) (hN'.down X) (by rw [hll'.down]; omega)
    have hRa' := PLift.up hRa
    have hRb' := PLift.up hRb
    clear hRa hRb elb
    refine into ?_
    refine (hRa'.down G).mono ?_
    rintro ra _ ⟨ga, rfl, ha⟩
    simp only [List.append_assoc, List.cons_append]
    have hfin : ∀ (va vb : V) (La Lb : List Nat) (ea eb : Int) (Gb : Mem), True := fun _ _ _ _ _ _ _ => trivial
    clear hfin
    rcases ha with ⟨hno, _⟩ | ⟨_, _, hno, rfl⟩ | ⟨_, _, hma, va2, La, rfl, hGa, hsa, hla, hLa⟩
    · exact absurd ⟨hR'.down, hok'.down⟩ hno
    · have hno' := PLift.up hno
      clear hno
      refine am ?_
      refine (hRb'.down ga).mono ?_
      rintro rb _ ⟨gb, rfl, ⟨hno, _⟩ | ⟨_, _, _, rfl⟩ | ⟨_, _, hmb, _⟩⟩
      · exact absurd ⟨hR'.down, hok'.down⟩ hno
      · refine am ?_
        refine range (α := Unit) 0 (fun _ => []) (fun _ _ _ => True) () trivial ?_ ?_
        · rintro k _ fr _ hk F _
          exact absurd hk (Nat.not_lt_zero _)
        · rintro _ fr _ F _
          refine am ?_
          trivial
      · exact absurd (hmb.sub fun x hx => (hiff'.down x).2 hx) hno'.down
    · have hma' := PLift.up hma
      have hsa' := PLift.up hsa
      have hLa' := PLift.up hLa
      have vac := hGa.cell
      have hNa : ∀ X, Nus (m ++ .cells true [heapV H aw uw sv] :: .cells true [[tv]] :: (g1 ++ (G ++ (ga ++ X)))) va2 La := fun X => by
        have := Gw.sl (G := X) (A := m ++ .cells true [heapV H aw uw sv] :: .cells true [[tv]] :: (g1 ++ G)) hGa
        refine Nus.of ?_
        simpa only [List.append_assoc, List.cons_append, List.nil_append] using this
      have hNa' := PLift.up hNa
      clear hma hsa hLa hGa hNa
      refine am ?_
      refine (hRb'.down ga).mono ?_
      rintro rb _ ⟨gb, rfl, ⟨hno, _⟩ | ⟨_, _, hno, _⟩ | ⟨_, _, hmb, vb2, Lb, rfl, hGb, hsb, hlb, hLb⟩⟩
      · exact absurd ⟨hR'.down, hok'.down⟩ hno
      · exact absurd (hma'.down.sub fun x hx => (hiff'.down x).1 hx) hno
      · have eLb : Lb = La := rise_ext hsb hsa'.down fun x => by
          rw [hLb, hLa'.down]
          exact ⟨Rcb.sub fun x hx => (hiff'.down x).1 hx, Rcb.sub fun x hx => (hiff'.down x).2 hx⟩
        subst eLb
        have vbc := hGb.cell
        have hNb : Nus (m ++ .cells true [heapV H aw uw sv] :: .cells true [[tv]] :: (g1 ++ (G ++ (ga ++ gb)))) vb2 Lb := by
          have := Gw.sl (G := []) (A := m ++ .cells true [heapV H aw uw sv] :: .cells true [[tv]] :: (g1 ++ (G ++ ga))) (g := gb) (by simpa only [List.append_assoc, List.cons_append] using hGb)
          refine Nus.of ?_
          simpa only [List.append_assoc, List.cons_append, List.nil_append, List.append_nil] using this
        have n1 := (hNa'.down gb).ar
        have n2 := hNb.ar
        have cl : ((Lb.length : Int) = (Lb.length : Int)) = True := eq_true rfl
        simp only [List.append_assoc, List.cons_append]
        clear hsb hLb hGb hmb hNb
        refine am ?_
        refine range (α := Unit) Lb.length (fun _ => [(11, va2), (13, vb2)]) (fun _ M => fun M' => M' = m ++ .cells true [heapV H aw uw sv] :: .cells true [[tv]] :: (g1 ++ (G ++ (ga ++ gb)))) () rfl ?_ ?_
        · rintro k _ fr _ hk F rfl
          have c3 : ((nx Lb k : Int) = (nx Lb k : Int)) = True := eq_true rfl
          refine am ?_
          exact ⟨(), byam, rfl⟩
        · rintro _ fr _ F _
          refine am ?_
          trivial
end Go.AM.G


set_option maxRecDepth 100000
namespace Go.AM.G
open Go Go.AM
/-- a special. -/
structure Spc where
  ad : Nat
  kd : Nat
  tg : Nat
deriving DecidableEq, Inhabited
def spcV (s : Spc) : List V := [.int .u64 (s.ad : Nat), .int .u8 (s.kd : Nat), .int .u64 (s.tg : Nat)]
theorem spcV_eq {s : Spc} : spcV s = [.int .u64 (s.ad : Nat), .int .u8 (s.kd : Nat), .int .u64 (s.tg : Nat)] := rfl
theorem SameW_spec {m : Mem} {v u : V} {n k : Nat} {w x : Nat → Nat} (hv : Rd m v 1 n (u64s w)) (hu : Rd m u 1 k (u64s x)) (hn : n < 4611686018427387904) : C S n_ref09_Same [v, u] m (fun r m' => r = .bool (decide (n = k ∧ ∀ i, i < n → w i = x i)) ∧ m' = m) := by
  have A := hv.ar
  have B := hu.ar
  by_cases h : n = k
  case neg =>
    have h1 : ((n : Int) = (k : Int)) = False := eq_false (by omega)
    have h2 : (n = k ∧ ∀ i, i < n → w i = x i) = False := eq_false fun e => h e.1
    refine fn rfl ?_
    simp
  subst h
  have h1 : ((n : Int) = (n : Int)) = True := eq_true rfl
  refine fn rfl ?_
  refine range (α := Unit) n (fun _ => [(0, v), (1, u)]) (fun j _ M => M = m ∧ ∀ i, i < j → w i = x i) () ⟨rfl, fun i hi => absurd hi (Nat.not_lt_zero _)⟩ ?_ ?_
  · rintro j ⟨⟩ fr _ hj F ⟨rfl, hj2⟩
    by_cases e : w j = x j
    · have e' : ((w j : Int) = (x j : Int)) = True := eq_true (by omega)
      refine am ?_
      exact ⟨(), byam, rfl, fun i hi => by by_cases h : i = j; exact h ▸ e; exact hj2 i (by omega)⟩
    · have e' : ((w j : Int) = (x j : Int)) = False := eq_false (by omega)
      refine am ?_
      exact (decide_eq_false fun h => e (h j hj)).symm
  · rintro ⟨⟩ fr _ F ⟨rfl, hj2⟩
    have e2 : id (∀ i, i < n → w i = x i) := hj2
    clear hj2
    refine am ?_
    exact (decide_eq_true (show ∀ i, i < n → w i = x i from e2)).symm
theorem EqualS_spec {m : Mem} {v u : V} {n k : Nat} {w x : Nat → Spc} (hv : Rd m v 3 n (fun i => spcV (w i))) (hu : Rd m u 3 k (fun i => spcV (x i))) (hn : n < 4611686018427387904) : C S n_slices_Equal_Special [v, u] m (fun r m' => r = .bool (decide (n = k ∧ ∀ i, i < n → w i = x i)) ∧ m' = m) := by
  have A := hv.ar
  have B := hu.ar
  by_cases h : n = k
  case neg =>
    have h1 : ((n : Int) = (k : Int)) = False := eq_false (by omega)
    have h2 : (n = k ∧ ∀ i, i < n → w i = x i) = False := eq_false fun e => h e.1
    refine fn rfl ?_
    simp
  subst h
  have h1 : ((n : Int) = (n : Int)) = True := eq_true rfl
  refine fn rfl ?_
  refine range (α := Unit) n (fun _ => [(0, v), (1, u)]) (fun j _ M => M = m ∧ ∀ i, i < j → w i = x i) () ⟨rfl, fun i hi => absurd hi (Nat.not_lt_zero _)⟩ ?_ ?_
  · rintro j ⟨⟩ fr _ hj F ⟨rfl, hj2⟩
    have s1 : spcV (w j) = [.int .u64 ((w j).ad : Nat), .int .u8 ((w j).kd : Nat), .int .u64 ((w j).tg : Nat)] := rfl
    have s2 : spcV (x j) = [.int .u64 ((x j).ad : Nat), .int .u8 ((x j).kd : Nat), .int .u64 ((x j).tg : Nat)] := rfl
    by_cases e : w j = x j
    · have e' : (((w j).ad : Int) = ((x j).ad : Int)) = True := eq_true (by rw [e])
      have e'2 : (((w j).kd : Int) = ((x j).kd : Int)) = True := eq_true (by rw [e])
      have e'3 : (((w j).tg : Int) = ((x j).tg : Int)) = True := eq_true (by rw [e])
      have e1 := PLift.up e
      clear e
      refine am ?_
      exact ⟨(), byam, rfl, fun i hi => by by_cases h : i = j; exact h ▸ e1.down; exact hj2 i (by omega)⟩
    · have e3 : ¬ ((w j).ad = (x j).ad ∧ (w j).kd = (x j).kd ∧ (w j).tg = (x j).tg) := fun h => e (by rcases h with ⟨a, b, c⟩; cases hw : w j; cases hx : x j; rw [hw, hx] at a b c; simp_all)
      have e0 := PLift.up e
      have e5 := PLift.up e3
      have bf : ∀ b, (false && b) = false := fun _ => rfl
      clear e e3
      by_cases a1 : ((w j).ad : Int) = ((x j).ad : Int)
      · have a1' := eq_true a1
        clear a1
        by_cases a2 : ((w j).kd : Int) = ((x j).kd : Int)
        · have a2' := eq_true a2
          clear a2
          have a3 : (((w j).tg : Int) = ((x j).tg : Int)) = False := eq_false fun a => e5.down ⟨Int.natCast_inj.1 (a1' ▸ trivial), Int.natCast_inj.1 (a2' ▸ trivial), Int.natCast_inj.1 a⟩
          refine am ?_
          exact (decide_eq_false (fun h : ∀ i, i < n → w i = x i => e0.down (h j hj))).symm
        · have a2' := eq_false a2
          clear a2
          refine am ?_
          exact (decide_eq_false (fun h : ∀ i, i < n → w i = x i => e0.down (h j hj))).symm
      · have a1' := eq_false a1
        clear a1
        refine am ?_
        exact (decide_eq_false (fun h : ∀ i, i < n → w i = x i => e0.down (h j hj))).symm
  · rintro ⟨⟩ fr _ F ⟨rfl, hj2⟩
    have e2 : id (∀ i, i < n → w i = x i) := hj2
    clear hj2
    refine am ?_
    exact (decide_eq_true (show ∀ i, i < n → w i = x i from e2)).symm
theorem SameS_spec {m : Mem} {v u : V} {n k : Nat} {w x : Nat → Spc} (hv : Rd m v 3 n (fun i => spcV (w i))) (hu : Rd m u 3 k (fun i => spcV (x i))) (hn : n < 4611686018427387904) : C S n_ref08_Same [v, u] m (fun r m' => r = .bool (decide (n = k ∧ ∀ i, i < n → w i = x i)) ∧ m' = m) := by
  have A := hv.ar
  have B := hu.ar
  by_cases h : n = k
  case neg =>
    have h1 : ((n : Int) = (k : Int)) = False := eq_false (by omega)
    have h2 : (n = k ∧ ∀ i, i < n → w i = x i) = False := eq_false fun e => h e.1
    refine fn rfl ?_
    simp
  subst h
  have h1 : ((n : Int) = (n : Int)) = True := eq_true rfl
  refine fn rfl ?_
  refine range (α := Unit) n (fun _ => [(0, v), (1, u)]) (fun j _ M => M = m ∧ ∀ i, i < j → w i = x i) () ⟨rfl, fun i hi => absurd hi (Nat.not_lt_zero _)⟩ ?_ ?_
  · rintro j ⟨⟩ fr _ hj F ⟨rfl, hj2⟩
    have s1 : spcV (w j) = [.int .u64 ((w j).ad : Nat), .int .u8 ((w j).kd : Nat), .int .u64 ((w j).tg : Nat)] := rfl
    have s2 : spcV (x j) = [.int .u64 ((x j).ad : Nat), .int .u8 ((x j).kd : Nat), .int .u64 ((x j).tg : Nat)] := rfl
    by_cases e : w j = x j
    · have e' : (((w j).ad : Int) = ((x j).ad : Int)) = True := eq_true (by rw [e])
      have e'2 : (((w j).kd : Int) = ((x j).kd : Int)) = True := eq_true (by rw [e])
      have e'3 : (((w j).tg : Int) = ((x j).tg : Int)) = True := eq_true (by rw [e])
      have e1 := PLift.up e
      clear e
      refine am ?_
      exact ⟨(), byam, rfl, fun i hi => by by_cases h : i = j; exact h ▸ e1.down; exact hj2 i (by omega)⟩
    · have e3 : ¬ ((w j).ad = (x j).ad ∧ (w j).kd = (x j).kd ∧ (w j).tg = (x j).tg) := fun h => e (by rcases h with ⟨a, b, c⟩; cases hw : w j; cases hx : x j; rw [hw, hx] at a b c; simp_all)
      have e0 := PLift.up e
      have e5 := PLift.up e3
      have bf : ∀ b, (false && b) = false := fun _ => rfl
      clear e e3
      by_cases a1 : ((w j).ad : Int) = ((x j).ad : Int)
      · have a1' := eq_true a1
        clear a1
        by_cases a2 : ((w j).kd : Int) = ((x j).kd : Int)
        · have a2' := eq_true a2
          clear a2
          have a3 : (((w j).tg : Int) = ((x j).tg : Int)) = False := eq_false fun a => e5.down ⟨Int.natCast_inj.1 (a1' ▸ trivial), Int.natCast_inj.1 (a2' ▸ trivial), Int.natCast_inj.1 a⟩
          refine am ?_
          exact (decide_eq_false (fun h : ∀ i, i < n → w i = x i => e0.down (h j hj))).symm
        · have a2' := eq_false a2
          clear a2
          refine am ?_
          exact (decide_eq_false (fun h : ∀ i, i < n → w i = x i => e0.down (h j hj))).symm
      · have a1' := eq_false a1
        clear a1
        refine am ?_
        exact (decide_eq_false (fun h : ∀ i, i < n → w i = x i => e0.down (h j hj))).symm
  · rintro ⟨⟩ fr _ F ⟨rfl, hj2⟩
    have e2 : id (∀ i, i < n → w i = x i) := hj2
    clear hj2
    refine am ?_
    exact (decide_eq_true (show ∀ i, i < n → w i = x i from e2)).symm
/-- a fate. -/
structure FtA where
  ln : Nat
  lw : Nat → Nat
  kn : Nat
  kw : Nat → Nat
  fn : Nat
  fs : Nat → Spc
  cn : Nat
  cs : Nat → Spc
structure FtRd (m : Mem) (l k f c : V) (x : FtA) : Prop where
  l : Rd m l 1 x.ln (u64s x.lw)
  k : Rd m k 1 x.kn (u64s x.kw)
  f : Rd m f 3 x.fn (fun i => spcV (x.fs i))
  c : Rd m c 3 x.cn (fun i => spcV (x.cs i))
  nl : x.ln < 17592186044417
  nk : x.kn < 17592186044417
  nf : x.fn < 17592186044417
  nc : x.cn < 17592186044417
theorem FtRd.app {m g : Mem} {l k f c : V} {x : FtA} (h : FtRd m l k f c x) : FtRd (m ++ g) l k f c x := ⟨h.l.app, h.k.app, h.f.app, h.c.app, h.nl, h.nk, h.nf, h.nc⟩
def FtA.same (x y : FtA) : Prop := (x.ln = y.ln ∧ ∀ i, i < x.ln → x.lw i = y.lw i) ∧ (x.kn = y.kn ∧ ∀ i, i < x.kn → x.kw i = y.kw i) ∧ (x.fn = y.fn ∧ ∀ i, i < x.fn → x.fs i = y.fs i) ∧ (x.cn = y.cn ∧ ∀ i, i < x.cn → x.cs i = y.cs i)
open Classical in
theorem Alike_spec {m : Mem} {l k f c l' k' f' c' : V} {x y : FtA} (hx : FtRd m l k f c x) (hy : FtRd m l' k' f' c' y) : C S n_model_Alike [.agg [l, k, f, c], .agg [l', k', f', c']] m (fun r m' => r = .bool (decide (x.same y)) ∧ Grow m m') := by
  have hl := hx.l.ar
  have hk := hx.k.ar
  have hf := hx.f.ar
  have hc := hx.c.ar
  have hl' := hy.l.ar
  have hk' := hy.k.ar
  have hf' := hy.f.ar
  have hc' := hy.c.ar
  have X := PLift.up hx
  have Y := PLift.up hy
  refine fn rfl ?_
  refine am ?_
  refine (Equal_spec X.down.l.app Y.down.l.app (by have := X.down.nl; omega)).mono ?_
  rintro _ _ ⟨rfl, rfl⟩
  by_cases h0 : (x.ln = y.ln ∧ ∀ i, i < x.ln → x.lw i = y.lw i)
  case neg =>
    rw [decide_eq_false h0]
    have H := PLift.up h0
    clear h0
    have no : decide (x.same y) = false := decide_eq_false fun h => H.down h.1
    refine am ?_
    exact ⟨_, rfl⟩
  rw [decide_eq_true h0]
  replace h0 := PLift.up h0
  refine am ?_
  refine (Equal_spec X.down.k.app Y.down.k.app (by have := X.down.nk; omega)).mono ?_
  rintro _ _ ⟨rfl, rfl⟩
  by_cases h1 : (x.kn = y.kn ∧ ∀ i, i < x.kn → x.kw i = y.kw i)
  case neg =>
    rw [decide_eq_false h1]
    have H := PLift.up h1
    clear h1
    have no : decide (x.same y) = false := decide_eq_false fun h => H.down h.2.1
    refine am ?_
    exact ⟨_, rfl⟩
  rw [decide_eq_true h1]
  replace h1 := PLift.up h1
  refine am ?_
  refine (EqualS_spec X.down.f.app Y.down.f.app (by have := X.down.nf; omega)).mono ?_
  rintro _ _ ⟨rfl, rfl⟩
  by_cases h2 : (x.fn = y.fn ∧ ∀ i, i < x.fn → x.fs i = y.fs i)
  case neg =>
    rw [decide_eq_false h2]
    have H := PLift.up h2
    clear h2
    have no : decide (x.same y) = false := decide_eq_false fun h => H.down h.2.2.1
    refine am ?_
    exact ⟨_, rfl⟩
  rw [decide_eq_true h2]
  replace h2 := PLift.up h2
  refine am ?_
  refine (EqualS_spec X.down.c.app Y.down.c.app (by have := X.down.nc; omega)).mono ?_
  rintro _ _ ⟨rfl, rfl⟩
  by_cases h3 : (x.cn = y.cn ∧ ∀ i, i < x.cn → x.cs i = y.cs i)
  case neg =>
    rw [decide_eq_false h3]
    have H := PLift.up h3
    clear h3
    have no : decide (x.same y) = false := decide_eq_false fun h => H.down h.2.2.2
    refine am ?_
    exact ⟨_, rfl⟩
  rw [decide_eq_true h3]
  replace h3 := PLift.up h3
  have yes : decide (x.same y) = true := decide_eq_true ⟨h0.down, h1.down, h2.down, h3.down⟩
  refine am ?_
  exact ⟨_, rfl⟩
open Classical in
theorem RefAlike_spec {m : Mem} {l k f c l' k' f' c' : V} {x y : FtA} (hx : FtRd m l k f c x) (hy : FtRd m l' k' f' c' y) : C S n_ref11_Alike [.agg [l, k, f, c], .agg [l', k', f', c']] m (fun r m' => r = .bool (decide (x.same y)) ∧ Grow m m') := by
  have hl := hx.l.ar
  have hk := hx.k.ar
  have hf := hx.f.ar
  have hc := hx.c.ar
  have hl' := hy.l.ar
  have hk' := hy.k.ar
  have hf' := hy.f.ar
  have hc' := hy.c.ar
  have X := PLift.up hx
  have Y := PLift.up hy
  refine fn rfl ?_
  refine am ?_
  refine (SameW_spec X.down.l.app Y.down.l.app (by have := X.down.nl; omega)).mono ?_
  rintro _ _ ⟨rfl, rfl⟩
  by_cases h0 : (x.ln = y.ln ∧ ∀ i, i < x.ln → x.lw i = y.lw i)
  case neg =>
    rw [decide_eq_false h0]
    have H := PLift.up h0
    clear h0
    have no : decide (x.same y) = false := decide_eq_false fun h => H.down h.1
    refine am ?_
    exact ⟨_, rfl⟩
  rw [decide_eq_true h0]
  replace h0 := PLift.up h0
  refine am ?_
  refine (SameW_spec X.down.k.app Y.down.k.app (by have := X.down.nk; omega)).mono ?_
  rintro _ _ ⟨rfl, rfl⟩
  by_cases h1 : (x.kn = y.kn ∧ ∀ i, i < x.kn → x.kw i = y.kw i)
  case neg =>
    rw [decide_eq_false h1]
    have H := PLift.up h1
    clear h1
    have no : decide (x.same y) = false := decide_eq_false fun h => H.down h.2.1
    refine am ?_
    exact ⟨_, rfl⟩
  rw [decide_eq_true h1]
  replace h1 := PLift.up h1
  refine am ?_
  refine (SameS_spec X.down.f.app Y.down.f.app (by have := X.down.nf; omega)).mono ?_
  rintro _ _ ⟨rfl, rfl⟩
  by_cases h2 : (x.fn = y.fn ∧ ∀ i, i < x.fn → x.fs i = y.fs i)
  case neg =>
    rw [decide_eq_false h2]
    have H := PLift.up h2
    clear h2
    have no : decide (x.same y) = false := decide_eq_false fun h => H.down h.2.2.1
    refine am ?_
    exact ⟨_, rfl⟩
  rw [decide_eq_true h2]
  replace h2 := PLift.up h2
  refine am ?_
  refine (SameS_spec X.down.c.app Y.down.c.app (by have := X.down.nc; omega)).mono ?_
  rintro _ _ ⟨rfl, rfl⟩
  by_cases h3 : (x.cn = y.cn ∧ ∀ i, i < x.cn → x.cs i = y.cs i)
  case neg =>
    rw [decide_eq_false h3]
    have H := PLift.up h3
    clear h3
    have no : decide (x.same y) = false := decide_eq_false fun h => H.down h.2.2.2
    refine am ?_
    exact ⟨_, rfl⟩
  rw [decide_eq_true h3]
  replace h3 := PLift.up h3
  have yes : decide (x.same y) = true := decide_eq_true ⟨h0.down, h1.down, h2.down, h3.down⟩
  refine am ?_
  exact ⟨_, rfl⟩
theorem ModelAlike_spec {m : Mem} {l k f c l' k' f' c' : V} {x y : FtA} (hx : FtRd m l k f c x) (hy : FtRd m l' k' f' c' y) (bl : V.beq l l = true) (bk : V.beq k k = true) (bf : V.beq f f = true) (bc : V.beq c c = true) (bl' : V.beq l' l' = true) (bk' : V.beq k' k' = true) (bf' : V.beq f' f' = true) (bc' : V.beq c' c' = true) : C S n_law11_ModelAlike [.agg [l, k, f, c], .agg [l', k', f', c']] m (fun r _ => r = .bool true) := by
  have hl := hx.l.ar
  have hk := hx.k.ar
  have hf := hx.f.ar
  have hc := hx.c.ar
  have hl' := hy.l.ar
  have hk' := hy.k.ar
  have hf' := hy.f.ar
  have hc' := hy.c.ar
  have X := PLift.up hx
  have Y := PLift.up hy
  refine fn rfl ?_
  refine am ?_
  refine lives_spec.mono ?_
  rintro _ _ ⟨rfl, rfl⟩
  refine am ?_
  refine (Alike_spec X.down.app Y.down.app).mono ?_
  rintro _ _ ⟨rfl, ⟨g1, rfl⟩⟩
  have tt : (true && true) = true := rfl
  refine am ?_
  refine (RefAlike_spec X.down.app Y.down.app).mono ?_
  rintro _ _ ⟨rfl, ⟨g2, rfl⟩⟩
  exact byam
end Go.AM.G
