/- A heap's graph: of the document. -/
import Derived.Test.YtnpefpiggklimaaGreatHqG
set_option linter.unusedVariables false
set_option linter.unusedSimpArgs false

set_option maxRecDepth 100000
namespace Go.AM.G
open Go Go.AM
theorem rise_len : ∀ {l : List Nat} {lo n : Nat}, l.Pairwise (· < ·) → (∀ x, x ∈ l → lo ≤ x ∧ x < n) → lo + l.length ≤ n ∨ l = []
  | [], _, _, _, _ => .inr rfl
  | a :: l, lo, n, h, hx => by
    rw [List.pairwise_cons] at h
    have h1 := hx a (by simp)
    rcases rise_len (lo := a + 1) h.2 (fun x hm => ⟨h.1 x hm, (hx x (by simp [hm])).2⟩) with h2 | h2
    · left; simp; omega
    · left; subst h2; simp; omega
theorem set_small {l : List Nat} {n : Nat} (h : ∀ x, x ∈ l → x < n) : (setN l).length ≤ n := by
  rcases rise_len (lo := 0) (n := n) (setN_sorted (l := l)) (fun x hx => ⟨Nat.zero_le _, h x (mem_setN.1 hx)⟩) with h2 | h2
  · omega
  · rw [h2]; exact Nat.zero_le _
theorem plc_lt {cs : List Nat} {a : Nat} (h : a ∈ cs) : plc cs a < cs.length := List.idxOf_lt_length_iff.2 h
theorem roots_small {cs rs : List Nat} : ∀ {k : Nat}, rootsOk cs rs k → (∀ x, x ∈ rootsTo cs rs k → x < cs.length)
  | 0, _, x, hx => by simp [rootsTo] at hx
  | k + 1, h, x, hx => by
    unfold rootsTo at hx
    split at hx
    · rename_i h0
      rcases List.mem_append.1 hx with hx | hx
      · exact roots_small (fun i hi => h i (by omega)) x hx
      · simp at hx; subst hx; exact plc_lt (h k (by omega) h0)
    · exact roots_small (fun i hi => h i (by omega)) x hx
theorem refs_small {a : Nat → Nat} {cs : List Nat} {x : Nat} : ∀ {f : Nat}, (∀ i, i < f → (unM (a x)).testBit i = true → a (x + 1 + i) ≠ 0 → a (x + 1 + i) ∈ cs) → (∀ y, y ∈ refsTo a cs x f → y < cs.length)
  | 0, _, y, hy => by simp [refsTo] at hy
  | f + 1, h, y, hy => by
    unfold refsTo at hy
    split at hy
    · rename_i h0
      rcases List.mem_append.1 hy with hy | hy
      · exact refs_small (fun i hi => h i (by omega)) y hy
      · simp at hy; subst hy; exact plc_lt (h f (by omega) h0.1 h0.2)
    · exact refs_small (fun i hi => h i (by omega)) y hy
theorem ref_Of_spec {m : Mem} {aw uw sv rs0 : V} {va vm : Nat → V} {H : HeapA} {rs : List Nat} (h : HpRd m aw uw sv va vm H) (hr : Nus m rs0 rs) (hl : rs.length ≤ 17592186044416) :
    C S n_ref31_Of [.agg (heapV H aw uw sv), rs0] m (fun r m' => ofR H rs r m' ∧ Grow m m') := by
  have A := h.a.ar
  have B := h.u.ar
  have D := h.s.s.ar
  have E := hr.ar
  have pb := @pushB_mk
  refine fn rfl ?_
  refine (ref_Objects_spec h.app).mono ?_
  rintro _ _ (⟨hR, g, lv, rfl, rfl, hG⟩ | ⟨hR, rfl, ⟨g, rfl⟩⟩)
  case inr =>
    have hR' := PLift.up hR
    clear hR
    refine am ?_
    exact ⟨.inl ⟨hR'.down, rfl⟩, _, rfl⟩
  have hw := hR.2.1.wide hR.1 h.wa
  have hcs := curs_rise (rises_pair hw.rises)
  have hcl : (curs (obs H H.ns)).length ≤ 2048 := Nat.le_trans curs_len (obs_small hR.1)
  have hcur := fun a ha => HeapA.right.cur hR h.wa (a := a) ha
  have hfnd := fun a => curs_fnd (l := obs H H.ns) (a := a)
  have hna := hR.1.na
  obtain ⟨os, eos⟩ : ∃ os, obs H H.ns = os := ⟨_, rfl⟩
  have eos' := PLift.up eos
  rw [eos] at hcs hcl hcur hfnd hG
  obtain ⟨cs, ecs⟩ : ∃ cs, curs os = cs := ⟨_, rfl⟩
  rw [ecs] at hcs hcl hcur hfnd hG
  have hcs' := PLift.up hcs
  have hcur' := PLift.up hcur
  have hfnd' := PLift.up hfnd
  have lc := hG.cell
  have hR' := PLift.up hR
  have hN : ∀ X, Nus (m ++ .cells true [heapV H aw uw sv] :: .cells true [[.nils, .nils]] :: (g ++ X)) lv cs := fun X => by
    have := Gw.sl (G := X) (A := m ++ [.cells true [heapV H aw uw sv], .cells true [[.nils, .nils]]]) hG.cast
    refine Nus.of ?_
    simpa only [List.append_assoc, List.cons_append, List.nil_append] using this
  have hN' := PLift.up hN
  obtain ⟨n1, n2, n3, n4, _⟩ := (hN []).ar
  have n5 : ∀ X (i o : Nat) (k : Option Nat), i < cs.length → loadV (m ++ .cells true [heapV H aw uw sv] :: .cells true [[.nils, .nils]] :: (g ++ X)) k (atp lv i o) = part [.int .u64 (nx cs i : Nat)] o k := fun X i o k hi => (hN X).ar.2.2.2.2 i o k hi
  have hofE : PLift (∀ r m', ¬ rootsOk cs rs rs.length → r = .tup [.agg [.nils, .nils], .int .i64 10] → ofR H rs r m') := ⟨fun r m' h1 h2 => .inr (.inl ⟨hR, by rw [eos, ecs]; exact h1, h2⟩)⟩
  have hofO : PLift (∀ m' nv rv, rootsOk cs rs rs.length → GrB m' nv rv (cs.map (ndOf H.a cs)) (setN (rootsTo cs rs rs.length)) → ofR H rs (.tup [.agg [nv, rv], .int .i64 0]) m') := ⟨fun m' nv rv h1 h2 => .inr (.inr ⟨hR, by rw [eos, ecs]; exact h1, nv, rv, rfl, by rw [eos, ecs]; exact h2⟩)⟩
  obtain ⟨O, eO⟩ : ∃ O, ofR H rs = O := ⟨_, rfl⟩
  rw [eO] at hofE hofO ⊢
  clear hG hN hR hcs hcur hfnd eos ecs hw eO
  refine am ?_
  refine range (α := V) rs.length (fun _ => [(2, .ptr m.length 0 0), (4, .ptr (m.length + 1) 0 0), (6, lv), (8, .ptr (m.length + (g.length + 2)) 0 0), (29, rs0)])
    (fun k rv M => (∃ G, M = m ++ .cells true [heapV H aw uw sv] :: .cells true [[.nils, .nils]] :: (g ++ .cells true [[.nils, rv]] :: G) ∧ Rg (m.length + (g.length + 3)) G rv (setN (rootsTo cs rs k))) ∧ rootsOk cs rs k) .nils ⟨⟨[], rfl, .inl ⟨rfl, rfl⟩⟩, fun i hi => absurd hi (Nat.not_lt_zero _)⟩ ?_ ?_
  · rintro k rv fr _ hk F ⟨⟨G, rfl, hG⟩, hok⟩
    have hok' := PLift.up hok
    have rc := hG.cell
    have rb := hG.beq
    have hsm := set_small (roots_small hok)
    have hG' := PLift.up hG
    clear hok hG
    refine am ?_
    refine (ref_At_spec h.app).mono ?_
    rintro _ _ ⟨⟨_, rfl⟩ | ⟨hno, _⟩, ⟨g2, rfl⟩⟩
    case inr => exact absurd hR'.down hno
    rw [eos'.down]
    by_cases h0 : nx rs k = 0
    · have c0 : (((nx rs k : Nat) : Int) = 0) = True := eq_true (by omega)
      have e2 : atV os (nx rs k) = .tup [.agg [.int .i64 0, .int .u64 0], .int .i64 7] := if_pos h0
      have h0' := PLift.up h0
      clear h0
      refine am ?_
      refine ⟨rv, byam, ⟨_, rfl, ?_⟩, fun i hi hne => ?_⟩
      · show Rg _ _ _ (setN (if nx rs k ≠ 0 then _ else _))
        rw [if_neg (fun h => h h0'.down)]; exact hG'.down.app
      · by_cases e : i = k
        · subst e; exact absurd h0'.down hne
        · exact hok'.down i (by omega) hne
    have c0 : (((nx rs k : Nat) : Int) = 0) = False := eq_false (by omega)
    have h0' := PLift.up h0
    clear h0
    cases hf : fnd os (nx rs k) with
    | none =>
      have e2 : atV os (nx rs k) = .tup [.agg [.int .i64 0, .int .u64 0], .int .i64 10] := by unfold atV; rw [if_neg h0'.down, hf]
      have hf' := PLift.up hf
      clear hf
      refine am ?_
      refine ⟨hofE.down _ _ (fun e => ?_) rfl, _, rfl⟩
      have := (hfnd'.down _).1 (e k hk h0'.down)
      rw [hf'.down] at this; cases this
    | some o =>
      have e2 : atV os (nx rs k) = .tup [.agg [.int .i64 (o.w % 256 : Nat), .int .u64 (unM o.w : Nat)], .int .i64 0] := by unfold atV; rw [if_neg h0'.down, hf]
      have hin : PLift (nx rs k ∈ cs) := ⟨(hfnd'.down _).2 (by rw [hf]; rfl)⟩
      clear hf
      refine am ?_
      refine (ref31_at_spec (l := cs) (hN'.down _) hcs'.down (by omega) hin.down).mono ?_
      rintro _ _ ⟨rfl, ⟨g3, rfl⟩⟩
      have hsl := Rg.sl (A := m ++ Blk.cells true [heapV H aw uw sv] :: .cells true [[.nils, .nils]] :: (g ++ [.cells true [[.nils, rv]]])) (G := g2 ++ .cells true [[.int .i64 (o.w % 256 : Nat), .int .u64 (unM o.w : Nat)]] :: g3) hG'.down.cast
      simp only [List.append_assoc, List.cons_append, List.nil_append] at hsl
      have hsl' := PLift.up hsl
      have hcap := PLift.up hG'.down.cap
      clear hsl
      refine am ?_
      refine (put_spec (l := setN (rootsTo cs rs k)) (p := plc cs (nx rs k)) hsl'.down hcap.down (by omega)).mono ?_
      rintro r _ ⟨g4, rfl, hput⟩
      have hg2 : Rg (m.length + (g.length + 3)) (G ++ (g2 ++ .cells true [[.int .i64 (o.w % 256 : Nat), .int .u64 (unM o.w : Nat)]] :: (g3 ++ g4))) r (setN (rootsTo cs rs (k + 1))) := by
        have e : rootsTo cs rs (k + 1) = rootsTo cs rs k ++ [plc cs (nx rs k)] := if_pos h0'.down
        rw [e, setN_snoc]
        rcases hput with ⟨rfl, hput⟩ | hput
        · rw [hput]; exact hG'.down.app
        · have h1 := Rg.pre (len := m.length + (g.length + 3)) (G ++ (g2 ++ .cells true [[.int .i64 (o.w % 256 : Nat), .int .u64 (unM o.w : Nat)]] :: g3)) hput.cast
          simpa only [List.append_assoc, List.cons_append] using h1
      have rc2 := hg2.cell
      have hg2' := PLift.up hg2
      clear hg2 hput
      refine am ?_
      refine ⟨r, byam, ⟨_, rfl, hg2'.down⟩, fun i hi hne => ?_⟩
      by_cases e : i = k
      · subst e; exact hin.down
      · exact hok'.down i (by omega) hne
  · rintro rv2 fr _ F ⟨⟨G0, rfl, hG⟩, hok⟩
    have hok' := PLift.up hok
    have rc := hG.cell
    have hrg' := PLift.up hG
    clear hok hG
    refine am ?_
    obtain ⟨R, eR⟩ : ∃ R, setN (rootsTo cs rs rs.length) = R := ⟨_, rfl⟩
    refine range (α := V) cs.length (fun _ => [(2, .ptr m.length 0 0), (4, .ptr (m.length + 1) 0 0), (6, lv), (8, .ptr (m.length + (g.length + 2)) 0 0), (59, lv)])
      (fun k uN M => ∃ G els, M = m ++ .cells true [heapV H aw uw sv] :: .cells true [[.nils, .nils]] :: (g ++ .cells true [[uN, rv2]] :: G) ∧ Nd (m.length + (g.length + 3)) G uN els ((cs.take k).map (ndOf H.a cs)) ∧ Rg (m.length + (g.length + 3)) G rv2 R ∧ ∀ c, blkOf rv2 = some c → blkOf uN ≠ some c) .nils ⟨G0, [], rfl, Nd.none, eR ▸ hrg'.down.cast, fun _ _ e => by cases e⟩ ?_ ?_
    · rintro k uN fr _ hk F ⟨G, els, rfl, hN, hrg, hb⟩
      have hin := nx_mem hk
      obtain ⟨a, ea⟩ : ∃ a, nx cs k = a := ⟨_, rfl⟩
      have ea' := PLift.up ea
      rw [ea] at hin
      obtain ⟨a1, a2, a3, ⟨o, a4, a5⟩, a6⟩ := hcur'.down a hin
      have e2 : atV os a = .tup [.agg [.int .i64 (H.a a % 256 : Nat), .int .u64 (unM (H.a a) : Nat)], .int .i64 0] := by unfold atV; rw [if_neg a1, a4, ← a5]
      have n48 : H.a a % 256 ≤ 48 := a3.2.1
      have w1 : IntKind.i64.wrap (((H.a a % 256 : Nat) : Int) + 1) = ((H.a a % 256 + 1 : Nat) : Int) := by rw [wrap_i64] <;> omega
      have uc := hN.gw.cell
      have hN2 := PLift.up hN
      have hrg2 := PLift.up hrg
      have hb2 := PLift.up hb
      have a6' := PLift.up a6
      clear hN hrg hb a1 a3 a4 a5 a6
      refine am ?_
      refine (ref_At_spec h.app).mono ?_
      rintro _ _ ⟨⟨_, rfl⟩ | ⟨hno, _⟩, ⟨g1, rfl⟩⟩
      case inr => exact absurd hR'.down hno
      rw [eos'.down]
      refine am ?_
      let I2 := fun (d : Nat) (fr : Frame) (M : Mem) => ∃ (f : Nat) (v : V) (G2 : Mem), f ≤ H.a a % 256 ∧ d = H.a a % 256 - f ∧ Has fr [(2, .ptr m.length 0 0), (4, .ptr (m.length + 1) 0 0), (6, lv), (8, .ptr (m.length + (g.length + 2)) 0 0), (14, .int .u64 (a : Nat)), (15, .ptr (m.length + (g.length + (G.length + g1.length + 1) + 1 + 1)) 0 0), (17, .ptr (m.length + (g.length + (G.length + (g1.length + 1) + 1) + 1 + 1)) 0 0), (18, .int .i64 (f : Nat)), (59, lv), (60, .int .i64 (cs.length : Nat)), (61, .int .i64 (k : Nat))] ∧ M = m ++ .cells true [heapV H aw uw sv] :: .cells true [[.nils, .nils]] :: (g ++ .cells true [[uN, rv2]] :: (G ++ (g1 ++ .cells true [[.int .i64 (H.a a % 256 : Nat), .int .u64 (unM (H.a a) : Nat)]] :: .cells true [[.int .u64 (a : Nat), .int .i64 (H.a a % 256 + 1 : Nat), v]] :: G2))) ∧ Rg (m.length + (g.length + (G.length + (g1.length + 5)))) G2 v (setN (refsTo H.a cs a f))
      refine W_loop I2 ?_ (H.a a % 256) ⟨0, .nils, [], Nat.zero_le _, rfl, byam, rfl, .inl ⟨rfl, rfl⟩⟩
      rintro d fr _ ⟨f, v, G2, hfn, rfl, F, rfl, h2⟩
      have vc := h2.cell
      have vb := h2.beq
      have h2' := PLift.up h2
      clear h2
      by_cases hf : f < H.a a % 256
      · have c2 : ((f : Int) < ((H.a a % 256 : Nat) : Int)) = True := eq_true (by omega)
        have w2 : IntKind.u64.wrap ((a : Int) + 1) = ((a + 1 : Nat) : Int) := by rw [wrap_u64] <;> omega
        have w3 := un' (a := f) (by omega)
        have w4 : IntKind.u64.wrap (((a + 1 : Nat) : Int) + (f : Int)) = ((a + 1 + f : Nat) : Int) := by rw [wrap_u64] <;> omega
        have w5 : IntKind.i64.wrap ((f : Int) + 1) = ((f + 1 : Nat) : Int) := by rw [wrap_i64] <;> omega
        have lt : a + 1 + f < H.na := by omega
        have hsm := set_small (refs_small (f := f) fun i hi => a6'.down i (by omega))
        have e : refsTo H.a cs a (f + 1) = if (unM (H.a a)).testBit f = true ∧ H.a (a + 1 + f) ≠ 0 then refsTo H.a cs a f ++ [plc cs (H.a (a + 1 + f))] else refsTo H.a cs a f := rfl
        have e' := PLift.up e
        clear e
        refine into ?_
        refine (ref06_Is_spec (f := f) unM_lt (by omega)).mono ?_
        rintro _ _ ⟨rfl, ⟨g3, rfl⟩⟩
        cases hbt : (unM (H.a a)).testBit f with
        | false =>
          refine am ?_
          refine into ?_
          refine ⟨_, ?_, f + 1, v, G2 ++ g3, by omega, rfl, byam, rfl, ?_⟩
          · omega
          · rw [e'.down, if_neg (fun h => by rw [hbt] at h; cases h.1)]
            exact h2'.down.app
        | true =>
        by_cases h0 : H.a (a + 1 + f) = 0
        · have c3 : ((H.a (a + 1 + f) : Int) = 0) = True := eq_true (by omega)
          have h0' := PLift.up h0
          clear h0
          refine am ?_
          refine into ?_
          refine ⟨_, ?_, f + 1, v, G2 ++ g3, by omega, rfl, byam, rfl, ?_⟩
          · omega
          · rw [e'.down, if_neg (fun h => h.2 h0'.down)]
            exact h2'.down.app
        · have c3 : ((H.a (a + 1 + f) : Int) = 0) = False := eq_false (by omega)
          have hin := PLift.up (a6'.down f hf hbt h0)
          have he := PLift.up (e'.down.trans (if_pos ⟨hbt, h0⟩))
          clear h0 e'
          refine am ?_
          refine (ref31_at_spec (l := cs) (hN'.down _) hcs'.down (by omega) hin.down).mono ?_
          rintro _ _ ⟨rfl, ⟨g4, rfl⟩⟩
          have hsl := Rg.sl (A := m ++ Blk.cells true [heapV H aw uw sv] :: .cells true [[.nils, .nils]] :: (g ++ .cells true [[uN, rv2]] :: (G ++ (g1 ++ [.cells true [[.int .i64 (H.a a % 256 : Nat), .int .u64 (unM (H.a a) : Nat)]], .cells true [[.int .u64 (a : Nat), .int .i64 (H.a a % 256 + 1 : Nat), v]]])))) (G := g3 ++ g4) h2'.down.cast
          simp only [List.append_assoc, List.cons_append, List.nil_append] at hsl
          have hsl' := PLift.up hsl
          have hcap := PLift.up h2'.down.cap
          clear hsl
          refine am ?_
          refine (put_spec (l := setN (refsTo H.a cs a f)) (p := plc cs (H.a (a + 1 + f))) hsl'.down hcap.down (by omega)).mono ?_
          rintro r _ ⟨g5, rfl, hput⟩
          have hg2 : Rg (m.length + (g.length + (G.length + (g1.length + 5)))) (G2 ++ (g3 ++ (g4 ++ g5))) r (setN (refsTo H.a cs a (f + 1))) := by
            rw [he.down, setN_snoc]
            rcases hput with ⟨rfl, hput⟩ | hput
            · rw [hput]; exact h2'.down.app
            · have h1 := Rg.pre (len := m.length + (g.length + (G.length + (g1.length + 5)))) (G2 ++ (g3 ++ g4)) hput.cast
              simpa only [List.append_assoc] using h1
          have rc2 := hg2.cell
          have hg2' := PLift.up hg2
          clear hg2 hput
          refine am ?_
          refine into ?_
          refine ⟨_, ?_, f + 1, r, _, by omega, rfl, byam, rfl, hg2'.down⟩
          omega
      · have ef : f = H.a a % 256 := by omega
        have c2 : ((f : Int) < ((H.a a % 256 : Nat) : Int)) = False := eq_false (by omega)
        rw [ef] at h2'
        clear ef
        have hNl : ((cs.take k).map (ndOf H.a cs)).length < 1000000 := by simp; omega
        obtain ⟨G', l1, hp, hnd, hkeep⟩ := Nd.push (A := m ++ Blk.cells true [heapV H aw uw sv] :: .cells true [[.nils, .nils]] :: (g ++ [.cells true [[uN, rv2]]])) (G := G) hN2.down.cast hNl
        simp only [List.append_assoc, List.cons_append, List.nil_append, List.length_append, List.length_cons, List.length_nil] at hp
        have l1' := PLift.up l1
        have hnd' := PLift.up hnd
        have hkeep' := PLift.up hkeep
        clear l1 hnd hkeep hNl
        refine into ?_
        have et : (cs.take (k + 1)).map (ndOf H.a cs) = (cs.take k).map (ndOf H.a cs) ++ [ndOf H.a cs a] := by
          rw [List.take_add_one, nx_get hk, ea'.down]; simp
        have l1 := l1'.down
        have r0 : Rg (m.length + (g.length + 3) + G'.length + (g1 ++ [Blk.cells true [[.int .i64 (H.a a % 256 : Nat), .int .u64 (unM (H.a a) : Nat)]], .cells true [[.int .u64 (a : Nat), .int .i64 (H.a a % 256 + 1 : Nat), v]]]).length) (G2 ++ [.cells true [[.int .u64 (a : Nat), .int .i64 (H.a a % 256 + 1 : Nat), v]]]) v (ndOf H.a cs a).to := h2'.down.app.cast
        have r3 := Rg.pre G' (Rg.pre _ r0)
        have key := hnd'.down _ (ndOf H.a cs a) v r3.cast
        refine ⟨_, byam, G' ++ (g1 ++ .cells true [[.int .i64 (H.a a % 256 : Nat), .int .u64 (unM (H.a a) : Nat)]] :: .cells true [[.int .u64 (a : Nat), .int .i64 (H.a a % 256 + 1 : Nat), v]] :: (G2 ++ [.cells true [[.int .u64 (a : Nat), .int .i64 (H.a a % 256 + 1 : Nat), v]], .cells true (els ++ [[.int .u64 (a : Nat), .int .i64 (H.a a % 256 + 1 : Nat), v]])])), els ++ [[.int .u64 (a : Nat), .int .i64 (H.a a % 256 + 1 : Nat), v]], rfl, ?_, ?_, ?_⟩
        · rw [et]
          have key2 := key.cast (c := m.length + (g.length + 3))
          simp only [List.append_assoc, List.cons_append, List.nil_append, List.length_append, List.length_cons, List.length_nil, Nat.zero_add, Nat.reduceAdd] at key2
          exact key2
        · exact (hkeep'.down _ _ hrg2.down.cast hb2.down).cast.app
        · intro c hc e
          have := hrg2.down.blk hc
          injection e with e
          omega
    · rintro uN fr _ F ⟨G, els, rfl, hN, hrg, hb⟩
      rw [List.take_length] at hN
      have uc := hN.gw.cell
      have hgr := Nd.gr (X := []) (A := m ++ .cells true [heapV H aw uw sv] :: .cells true [[uN, rv2]] :: (g ++ [.cells true [[uN, rv2]]])) (G := G) (uN := uN) (rv := rv2) (els := els) (R := R) (N := cs.map (ndOf H.a cs)) hN.cast (hrg.cast)
      simp only [List.append_assoc, List.cons_append, List.nil_append, List.append_nil] at hgr
      have hgr' := PLift.up hgr
      clear hN hrg hb hgr
      refine am ?_
      exact ⟨hofO.down _ _ _ hok'.down (eR ▸ hgr'.down), _, rfl⟩
end Go.AM.G


set_option maxRecDepth 100000
namespace Go.AM.G
open Go Go.AM
def nb (N : List NodeB) (j : Nat) : NodeB := N.getD j ⟨0, 0, []⟩
theorem nb_get {N : List NodeB} {j : Nat} (h : j < N.length) : N[j]? = some (nb N j) := by simp [nb, List.getD_eq_getElem?_getD, h]
theorem GrB.rd {m : Mem} {nv rv : V} {N : List NodeB} {R : List Nat} (h : GrB m nv rv N R) : ∃ tvs : Nat → V, Rd m nv 3 N.length (fun j => ndV (nb N j) (tvs j)) ∧ ∀ j, j < N.length → Sl m (tvs j) 1 (nats (nb N j).to) := by
  obtain ⟨_, els, h2, h3, h4⟩ := h
  refine ⟨fun j => (els.getD j []).getD 2 undef, .inl ?_, fun j hj => ?_⟩
  · have : els = (List.range N.length).map fun j => ndV (nb N j) ((els.getD j []).getD 2 undef) := by
      apply List.ext_getElem?
      intro j
      by_cases hj : j < N.length
      · obtain ⟨tv, a, _⟩ := h4 j _ (nb_get hj)
        simp [hj, List.getD_eq_getElem?_getD, a]
      · rw [List.getElem?_eq_none (by omega), List.getElem?_eq_none (by simp; omega)]
    rw [← this]; exact h2
  · obtain ⟨tv, a, b⟩ := h4 j _ (nb_get hj)
    have : (els.getD j []).getD 2 undef = tv := by simp [List.getD_eq_getElem?_getD, a]
    show Sl m ((els.getD j []).getD 2 undef) 1 _
    rw [this]; exact b
theorem SamePlaces_spec {m : Mem} {v u : V} {l : List Nat} (hv : Nis m v l) (hu : Nis m u l) (hl : l.length < 100000000000000000) : C S n_ref31_SamePlaces [v, u] m (fun r m' => r = .bool true ∧ Grow m m') := by
  have A := hv.ar
  have B := hu.ar
  have c0 : ((l.length : Int) = (l.length : Int)) = True := eq_true rfl
  refine fn rfl ?_
  refine range (α := Unit) l.length (fun _ => [(0, v), (1, u)]) (fun _ _ M => Grow m M) () (Grow.refl _) ?_ ?_
  · rintro k _ fr _ hk F ⟨g, rfl⟩
    have c1 : (((nx l k : Nat) : Int) = ((nx l k : Nat) : Int)) = True := eq_true rfl
    refine am ?_
    exact ⟨(), byam, _, rfl⟩
  · rintro _ fr _ F ⟨g, rfl⟩
    refine am ?_
    exact ⟨_, rfl⟩
theorem Same_spec {m : Mem} {nv rv nv' rv' : V} {N : List NodeB} {R : List Nat} (h1 : GrB m nv rv N R) (h2 : GrB m nv' rv' N R) (hN : N.length < 1000000) (hR : R.length < 100000000000000000) (hto : ∀ j, j < N.length → (nb N j).to.length < 1000000) :
    C S n_ref31_Same [.agg [nv, rv], .agg [nv', rv']] m (fun r m' => r = .bool true ∧ Grow m m') := by
  obtain ⟨t1, a1, a2⟩ := h1.rd
  obtain ⟨t2, b1, b2⟩ := h2.rd
  have A := a1.ar
  have B := b1.ar
  have rc := h1.1.cell
  have rc' := h2.1.cell
  have hr1 := Nis.of h1.1
  have hr2 := Nis.of h2.1
  have c0 : ((N.length : Int) = (N.length : Int)) = True := eq_true rfl
  have a2' := PLift.up a2
  have b2' := PLift.up b2
  have hto' := PLift.up hto
  clear a2 b2 hto h1 h2
  refine fn rfl ?_
  refine (SamePlaces_spec hr1.app hr2.app hR).mono ?_
  rintro _ _ ⟨rfl, ⟨g, rfl⟩⟩
  refine am ?_
  refine range (α := Unit) N.length (fun _ => [(3, .ptr (m.length + 1) 0 0), (24, nv)]) (fun _ _ M => ∃ g, M = m ++ .cells true [[nv, rv]] :: .cells true [[nv', rv']] :: g) () ⟨_, rfl⟩ ?_ ?_
  · rintro k _ fr _ hk F ⟨g, rfl⟩
    have s1 := a2'.down k hk
    have s2 := b2'.down k hk
    have tc1 := s1.cell
    have tc2 := s2.cell
    have s1' := PLift.up s1
    have s2' := PLift.up s2
    have c1 : (((nb N k).addr : Int) = ((nb N k).addr : Int)) = True := eq_true rfl
    have c2 : (((nb N k).words : Int) = ((nb N k).words : Int)) = True := eq_true rfl
    have ht := hto'.down k hk
    clear s1 s2
    refine am ?_
    refine (SamePlaces_spec (l := (nb N k).to) (Nis.of s1'.down).app (Nis.of s2'.down).app (by omega)).mono ?_
    rintro _ _ ⟨rfl, ⟨g2, rfl⟩⟩
    refine am ?_
    exact ⟨(), byam, _, rfl⟩
  · rintro _ fr _ F ⟨g, rfl⟩
    refine am ?_
    exact ⟨_, rfl⟩
theorem ofR_pair {H : HeapA} {rs : List Nat} {r1 r2 : V} {m1 m2 : Mem} (h1 : ofR H rs r1 m1) (h2 : ofR H rs r2 m2) (hl : rs.length ≤ 17592186044416) : ∃ (nv rv nv' rv' : V) (e : Int) (N : List NodeB) (R : List Nat), r1 = .tup [.agg [nv, rv], .int .i64 e] ∧ r2 = .tup [.agg [nv', rv'], .int .i64 e] ∧ GrB m1 nv rv N R ∧ GrB m2 nv' rv' N R ∧ N.length < 1000000 ∧ R.length < 100000000000000000 ∧ ∀ j, j < N.length → (nb N j).to.length < 1000000 := by
  have z : ∀ m, GrB m .nils .nils [] [] := fun m => ⟨⟨rfl, rfl⟩, [], ⟨rfl, rfl⟩, rfl, fun j x h => by simp at h⟩
  have zz : ∀ j, j < ([] : List NodeB).length → (nb [] j).to.length < 1000000 := fun j h => by simp at h
  rcases h1 with ⟨a, rfl⟩ | ⟨a, b, rfl⟩ | ⟨a, b, nv, rv, rfl, c⟩ <;> rcases h2 with ⟨a', rfl⟩ | ⟨a', b', rfl⟩ | ⟨a', b', nv', rv', rfl, c'⟩
  · exact ⟨_, _, _, _, _, [], [], rfl, rfl, z _, z _, by simp, by simp, zz⟩
  · exact absurd a' a
  · exact absurd a' a
  · exact absurd a a'
  · exact ⟨_, _, _, _, _, [], [], rfl, rfl, z _, z _, by simp, by simp, zz⟩
  · exact absurd b' b
  · exact absurd a a'
  · exact absurd b b'
  · refine ⟨_, _, _, _, _, _, _, rfl, rfl, c, c', ?_, ?_, fun j hj => ?_⟩
    · have := obs_small a.1
      have := @curs_len (obs H H.ns)
      rw [List.length_map]; omega
    · have := @setN_le (rootsTo (curs (obs H H.ns)) rs rs.length)
      have := @rootsTo_le (curs (obs H H.ns)) rs rs.length
      omega
    · rw [List.length_map] at hj
      have e : nb ((curs (obs H H.ns)).map (ndOf H.a (curs (obs H H.ns)))) j = ndOf H.a (curs (obs H H.ns)) (nx (curs (obs H H.ns)) j) := by
        simp [nb, nx, List.getD_eq_getElem?_getD, hj]
      rw [e]
      show (setN (refsTo _ _ _ _)).length < _
      have := @setN_le (refsTo H.a (curs (obs H H.ns)) (nx (curs (obs H H.ns)) j) (H.a (nx (curs (obs H H.ns)) j) % 256))
      have := @refsTo_le H.a (curs (obs H H.ns)) (nx (curs (obs H H.ns)) j) (H.a (nx (curs (obs H H.ns)) j) % 256)
      omega
theorem GrB.cells {m : Mem} {nv rv : V} {N : List NodeB} {R : List Nat} (h : GrB m nv rv N R) : nv.isCell = true ∧ rv.isCell = true := ⟨by obtain ⟨_, els, h2, _⟩ := h; exact h2.cell, h.1.cell⟩
theorem GraphOf_spec {m : Mem} {aw uw sv rs0 : V} {va vm : Nat → V} {H : HeapA} {rs : List Nat} (h : HpRd m aw uw sv va vm H) (hr : Nus m rs0 rs) (hl : rs.length ≤ 17592186044416) : C S n_law31_GraphOf [.agg (heapV H aw uw sv), rs0] m (fun r _ => r = .bool true) := by
  have A := h.a.ar
  have B := h.u.ar
  have D := h.s.s.ar
  have E := hr.ar
  refine fn rfl ?_
  refine (Of_spec h.app hr.app hl).mono ?_
  rintro r1 _ ⟨h1, ⟨g1, rfl⟩⟩
  have h1' := PLift.up h1
  have z : ∃ nv rv e, r1 = .tup [.agg [nv, rv], .int .i64 e] ∧ nv.isCell = true ∧ rv.isCell = true := by
    obtain ⟨nv, rv, _, _, e, _, _, h3, _, h5, _⟩ := ofR_pair h1 h1 hl
    exact ⟨nv, rv, e, h3, h5.cells.1, h5.cells.2⟩
  obtain ⟨nv, rv, e, rfl, c1, c2⟩ := z
  clear h1
  refine am ?_
  refine (ref_Of_spec h.app hr.app hl).mono ?_
  rintro r2 _ ⟨h2, ⟨g2, rfl⟩⟩
  obtain ⟨nv0, rv0, nv', rv', e', N, R, h3, rfl, h5, h6, h7, h8, h9⟩ := ofR_pair h1'.down h2 hl
  cases h3
  have c3 := h6.cells.1
  have c4 := h6.cells.2
  have h5' := PLift.up h5
  have h6' := PLift.up h6
  have h9' := PLift.up h9
  have ce : (e = e) = True := eq_true rfl
  clear h1' h2 h5 h6 h9
  refine am ?_
  refine lives_spec.mono ?_
  rintro _ _ ⟨rfl, rfl⟩
  refine am ?_
  refine (Same_spec (N := N) (R := R) ?_ ?_ h7 h8 h9'.down).mono ?_
  · have := h5'.down.app (g := .cells true [[nv, rv]] :: (g2 ++ [.cells true [[nv', rv']]]))
    simpa only [List.append_assoc, List.cons_append, List.nil_append] using this
  · have := h6'.down.app (g := [.cells true [[nv', rv']]])
    simpa only [List.append_assoc, List.cons_append, List.nil_append] using this
  · rintro _ _ ⟨rfl, ⟨g3, rfl⟩⟩
    refine am ?_
    trivial
end Go.AM.G
