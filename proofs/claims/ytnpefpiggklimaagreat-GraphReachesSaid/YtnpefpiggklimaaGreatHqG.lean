/- A heap's graph: of the program. -/
import Derived.Test.YtnpefpiggklimaaGreatHqD
set_option linter.unusedVariables false
set_option linter.unusedSimpArgs false
set_option maxRecDepth 100000
namespace Go.AM.G
open Go Go.AM
theorem Of_2_spec {A J G : Mem} {a n w c8 c6 : Nat} {v lv : V} {l cs : List Nat} (h8 : A[c8]? = some (.cells true [[.fn n_graph_Of_1 [] [.ptr c6 0 0]]])) (h6 : A[c6]? = some (.cells true [[lv]])) (hv : Nus A lv cs) (hcs : cs.Pairwise (· < ·)) (hcl : cs.length < 1000000) (hw : w ≠ 0 → w ∈ cs) (hl : l.length < 1000000) (hG : Gw (A.length + (J.length + 1)) G v 1 (nats l)) :
    C S n_graph_Of_2 [.int .u64 (w : Nat), .ptr A.length 0 0, .ptr c8 0 0] (A ++ .cells true [[.int .u64 (a : Nat), .int .i64 (n : Nat), v]] :: (J ++ G)) (fun _ M' => ∃ v' G', M' = A ++ .cells true [[.int .u64 (a : Nat), .int .i64 (n : Nat), v']] :: (J ++ G') ∧ Gw (A.length + (J.length + 1)) G' v' 1 (nats (if w ≠ 0 then l ++ [plc cs w] else l))) := by
  have pb := @pushB_mk
  have hG' := PLift.up hG
  have hw' := PLift.up hw
  have hcs' := PLift.up hcs
  have vc := hG.cell
  have vb := hG.beq
  clear hG hw hcs
  by_cases h0 : w = 0
  · have c0 : ((w : Int) = 0) = True := eq_true (by omega)
    have e : (if w ≠ 0 then l ++ [plc cs w] else l) = l := if_neg (fun h => h h0)
    rw [e]
    clear h0 e
    refine fn rfl ?_
    exact ⟨v, G, rfl, hG'.down⟩
  · have c0 : ((w : Int) = 0) = False := eq_false (by omega)
    have e : (if w ≠ 0 then l ++ [plc cs w] else l) = l ++ [plc cs w] := if_pos h0
    rw [e, nats, List.map_append, ← nats]
    have hin := PLift.up (hw'.down h0)
    clear h0 e
    refine fn rfl ?_
    refine (Of_1_spec (l := cs) (c := c6) (own := true) (getElem?_grow h6) hv.app hcs'.down hcl hin.down).mono ?_
    rintro _ _ ⟨rfl, ⟨g, rfl⟩⟩
    have hlen : (nats l).length = l.length := by simp
    obtain ⟨els, he⟩ : ∃ els, nats l = els := ⟨_, rfl⟩
    have hG := hG'.down
    rw [he] at hG hlen ⊢
    obtain ⟨G', l1, _, hp⟩ := Gw.push (A := A ++ .cells true [[.int .u64 (a : Nat), .int .i64 (n : Nat), v]] :: J) (zero := [.int .i64 0]) (bytes := 8) (hG.cast) rfl (by simp [roomy]; omega)
    simp only [List.append_assoc, List.cons_append, List.length_append, List.length_cons] at hp
    have l1' := PLift.up l1
    clear hG l1 he hlen
    refine am ?_
    refine ⟨_, _, rfl, .inr ⟨G.length + (g.length + 1), ?_, ?_⟩⟩
    · rw [List.length_append]; rfl
    · rw [← l1'.down]; exact byam
theorem Of_spec {m : Mem} {aw uw sv rs0 : V} {va vm : Nat → V} {H : HeapA} {rs : List Nat} (h : HpRd m aw uw sv va vm H) (hr : Nus m rs0 rs) (hl : rs.length ≤ 17592186044416) :
    C S n_graph_Of [.agg (heapV H aw uw sv), rs0] m (fun r m' => ofR H rs r m' ∧ Grow m m') := by
  have A := h.a.ar
  have B := h.u.ar
  have D := h.s.s.ar
  have E := hr.ar
  have pb := @pushB_mk
  refine fn rfl ?_
  refine (Objects_spec h.app).mono ?_
  rintro _ _ (⟨hR, g, lv, rfl, rfl, hG⟩ | ⟨hR, rfl, ⟨g, rfl⟩⟩)
  case inr =>
    have hR' := PLift.up hR
    clear hR
    refine am ?_
    exact ⟨.inl ⟨hR'.down, rfl⟩, _, rfl⟩
  have hw := hR.2.1.wide hR.1 h.wa
  have hcs := curs_rise (rises_pair hw.rises)
  have hcl : (curs (obs H H.ns)).length ≤ 2048 := Nat.le_trans curs_len (obs_small hR.1)
  have hcur := fun a ha => HeapA.right.cur hR h.wa (a := a) ha
  have hfnd := fun a => curs_fnd (l := obs H H.ns) (a := a)
  have hofR := PLift.up (show ∀ r m', ofR H rs r m' ↔ _ from fun r m' => Iff.rfl)
  have hna := hR.1.na
  obtain ⟨os, eos⟩ : ∃ os, obs H H.ns = os := ⟨_, rfl⟩
  have eos' := PLift.up eos
  rw [eos] at hcs hcl hcur hfnd hG
  obtain ⟨cs, ecs⟩ : ∃ cs, curs os = cs := ⟨_, rfl⟩
  have ecs' := PLift.up ecs
  rw [ecs] at hcs hcl hcur hfnd hG
  have hcs' := PLift.up hcs
  have hcur' := PLift.up hcur
  have hfnd' := PLift.up hfnd
  have lc := hG.cell
  have hR' := PLift.up hR
  have hN : ∀ X, Nus (m ++ .cells true [heapV H aw uw sv] :: .cells true [[.nils, .nils]] :: (g ++ X)) lv cs := fun X => by
    have := Gw.sl (G := X) (A := m ++ [.cells true [heapV H aw uw sv], .cells true [[.nils, .nils]]]) hG.cast
    refine Nus.of ?_
    simpa only [List.append_assoc, List.cons_append, List.nil_append] using this
  have hN' := PLift.up hN
  obtain ⟨n1, n2, n3, n4, _⟩ := (hN []).ar
  have n5 : ∀ X (i o : Nat) (k : Option Nat), i < cs.length → loadV (m ++ .cells true [heapV H aw uw sv] :: .cells true [[.nils, .nils]] :: (g ++ X)) k (atp lv i o) = part [.int .u64 (nx cs i : Nat)] o k := fun X i o k hi => (hN X).ar.2.2.2.2 i o k hi
  have hofE : PLift (∀ r m', ¬ rootsOk cs rs rs.length → r = .tup [.agg [.nils, .nils], .int .i64 10] → ofR H rs r m') := ⟨fun r m' h1 h2 => .inr (.inl ⟨hR, by rw [eos, ecs]; exact h1, h2⟩)⟩
  have hofO : PLift (∀ m' nv rv, rootsOk cs rs rs.length → GrB m' nv rv (cs.map (ndOf H.a cs)) (setN (rootsTo cs rs rs.length)) → ofR H rs (.tup [.agg [nv, rv], .int .i64 0]) m') := ⟨fun m' nv rv h1 h2 => .inr (.inr ⟨hR, by rw [eos, ecs]; exact h1, nv, rv, rfl, by rw [eos, ecs]; exact h2⟩)⟩
  obtain ⟨O, eO⟩ : ∃ O, ofR H rs = O := ⟨_, rfl⟩
  rw [eO] at hofE hofO ⊢
  clear hG hN hR hcs hcur hfnd eos ecs hofR hw eO
  have q9 : m.length + (g.length + 1 + 1 + 1) + 1 = m.length + (g.length + 4) := by omega
  refine am ?_
  refine range (α := V) rs.length (fun _ => [(2, .ptr m.length 0 0), (4, .ptr (m.length + 1) 0 0), (6, .ptr (m.length + (g.length + 2)) 0 0), (8, .ptr (m.length + (g.length + 3)) 0 0), (9, .ptr (m.length + (g.length + 4)) 0 0), (29, rs0)])
    (fun k rv M => (∃ G, M = m ++ .cells true [heapV H aw uw sv] :: .cells true [[.nils, .nils]] :: (g ++ .cells true [[lv]] :: .cells true [[.fn n_graph_Of_1 [] [.ptr (m.length + (g.length + 2)) 0 0]]] :: .cells true [[.nils, rv]] :: G) ∧ Gw (m.length + (g.length + 5)) G rv 1 (nats (rootsTo cs rs k))) ∧ rootsOk cs rs k) .nils ⟨⟨[], rfl, .inl ⟨rfl, rfl⟩⟩, fun i hi => absurd hi (Nat.not_lt_zero _)⟩ ?_ ?_
  · rintro k rv fr _ hk F ⟨⟨G, rfl, hG⟩, hok⟩
    have hok' := PLift.up hok
    have rc := hG.cell
    have rb := hG.beq
    clear hok
    by_cases h0 : nx rs k = 0
    · have c0 : (((nx rs k : Nat) : Int) = 0) = True := eq_true (by omega)
      have h0' := PLift.up h0
      clear h0
      refine am ?_
      refine ⟨rv, byam, ⟨G, rfl, ?_⟩, fun i hi hne => ?_⟩
      · show Gw _ _ _ _ (nats (if nx rs k ≠ 0 then _ else _))
        rw [if_neg (fun h => h h0'.down)]; exact hG
      · by_cases e : i = k
        · subst e; exact absurd h0'.down hne
        · exact hok'.down i (by omega) hne
    have c0 : (((nx rs k : Nat) : Int) = 0) = False := eq_false (by omega)
    have h0' := PLift.up h0
    clear h0
    have hG' := PLift.up hG
    clear hG
    refine am ?_
    refine (At_spec h.app).mono ?_
    rintro _ _ ⟨⟨_, rfl⟩ | ⟨hno, _⟩, ⟨g2, rfl⟩⟩
    case inr => exact absurd hR'.down hno
    rw [eos'.down]
    cases hf : fnd os (nx rs k) with
    | none =>
      have e2 : atV os (nx rs k) = .tup [.agg [.int .i64 0, .int .u64 0], .int .i64 10] := by unfold atV; rw [if_neg h0'.down, hf]
      have hf' := PLift.up hf
      clear hf
      refine am ?_
      refine ⟨hofE.down _ _ (fun e => ?_) rfl, _, rfl⟩
      have := (hfnd'.down _).1 (e k hk h0'.down)
      rw [hf'.down] at this; cases this
    | some o =>
      have e2 : atV os (nx rs k) = .tup [.agg [.int .i64 (o.w % 256 : Nat), .int .u64 (unM o.w : Nat)], .int .i64 0] := by unfold atV; rw [if_neg h0'.down, hf]
      have hin : PLift (nx rs k ∈ cs) := ⟨(hfnd'.down _).2 (by rw [hf]; rfl)⟩
      clear hf
      refine am ?_
      refine (Of_1_spec (l := cs) (c := m.length + (g.length + 2)) (own := true) byam (hN'.down _) hcs'.down (by omega) hin.down).mono ?_
      rintro _ _ ⟨rfl, ⟨g3, rfl⟩⟩
      have hle := @rootsTo_le cs rs k
      obtain ⟨els, he⟩ : ∃ els, nats (rootsTo cs rs k) = els := ⟨_, rfl⟩
      have hel : els.length ≤ k := by rw [← he, List.length_map]; exact hle
      have hG := hG'.down
      rw [he] at hG
      have he' := PLift.up he
      obtain ⟨G', l1, _, hp⟩ := Gw.push (A := m ++ .cells true [heapV H aw uw sv] :: .cells true [[.nils, .nils]] :: (g ++ [.cells true [[lv]], .cells true [[.fn n_graph_Of_1 [] [.ptr (m.length + (g.length + 2)) 0 0]]], .cells true [[.nils, rv]]])) (zero := [.int .i64 0]) (bytes := 8) (hG.cast) rfl (by simp [roomy]; omega)
      simp only [List.append_assoc, List.cons_append, List.nil_append, List.length_append, List.length_cons, List.length_nil] at hp
      have l1' := PLift.up l1
      clear hG l1 hel he hle
      refine am ?_
      refine ⟨_, byam, ⟨_, rfl, ?_⟩, fun i hi hne => ?_⟩
      · show Gw _ _ _ _ (nats (if nx rs k ≠ 0 then rootsTo cs rs k ++ [plc cs (nx rs k)] else _))
        rw [if_pos h0'.down, nats, List.map_append, ← nats, he'.down]
        refine .inr ⟨G.length + (g2.length + (g3.length + 1 + 1)), ?_, ?_⟩
        · rw [List.length_append]
          congr 1
        · rw [← l1'.down]; exact byam
      · by_cases e : i = k
        · subst e; exact hin.down
        · exact hok'.down i (by omega) hne
  · rintro rv fr _ F ⟨⟨G, rfl, hG⟩, hok⟩
    have hok' := PLift.up hok
    have rc := hG.cell
    have Rs := set_spec (A := m ++ .cells true [heapV H aw uw sv] :: .cells true [[.nils, .nils]] :: (g ++ [.cells true [[lv]], .cells true [[.fn n_graph_Of_1 [] [.ptr (m.length + (g.length + 2)) 0 0]]], .cells true [[.nils, rv]]])) (g := G) (G := []) hG.cast (by have := @rootsTo_le cs rs rs.length; omega)
    simp only [List.append_assoc, List.cons_append, List.nil_append, List.length_append, List.length_cons, List.length_nil, List.append_nil, Nat.zero_add] at Rs
    have Rs' := PLift.up Rs
    clear hok hG Rs
    refine am ?_
    refine Rs'.down.mono ?_
    rintro rv2 _ ⟨G0, rfl, _, hrg, _, _⟩
    have r2c := hrg.cell
    have hrg' := PLift.up hrg
    clear hrg Rs'
    refine am ?_
    obtain ⟨R, eR⟩ : ∃ R, setN (rootsTo cs rs rs.length) = R := ⟨_, rfl⟩
    refine range (α := V) cs.length (fun _ => [(2, .ptr m.length 0 0), (4, .ptr (m.length + 1) 0 0), (6, .ptr (m.length + (g.length + 2)) 0 0), (8, .ptr (m.length + (g.length + 3)) 0 0), (9, .ptr (m.length + (g.length + 4)) 0 0), (60, lv)])
      (fun k uN M => ∃ G els, M = m ++ .cells true [heapV H aw uw sv] :: .cells true [[.nils, .nils]] :: (g ++ .cells true [[lv]] :: .cells true [[.fn n_graph_Of_1 [] [.ptr (m.length + (g.length + 2)) 0 0]]] :: .cells true [[uN, rv2]] :: G) ∧ Nd (m.length + (g.length + 5)) G uN els ((cs.take k).map (ndOf H.a cs)) ∧ Rg (m.length + (g.length + 5)) G rv2 R ∧ ∀ c, blkOf rv2 = some c → blkOf uN ≠ some c) .nils ⟨G0, [], rfl, Nd.none, eR ▸ hrg'.down.cast, fun _ _ e => by cases e⟩ ?_ ?_
    · rintro k uN fr _ hk F ⟨G, els, rfl, hN, hrg, hb⟩
      have hin := nx_mem hk
      obtain ⟨a, ea⟩ : ∃ a, nx cs k = a := ⟨_, rfl⟩
      have ea' := PLift.up ea
      rw [ea] at hin
      obtain ⟨a1, a2, a3, ⟨o, a4, a5⟩, a6⟩ := hcur'.down a hin
      have e2 : atV os a = .tup [.agg [.int .i64 (H.a a % 256 : Nat), .int .u64 (unM (H.a a) : Nat)], .int .i64 0] := by unfold atV; rw [if_neg a1, a4, ← a5]
      have n48 : H.a a % 256 ≤ 48 := a3.2.1
      have w1 : IntKind.i64.wrap (((H.a a % 256 : Nat) : Int) + 1) = ((H.a a % 256 + 1 : Nat) : Int) := by rw [wrap_i64] <;> omega
      have uc := hN.gw.cell
      have hN2 := PLift.up hN
      have hrg2 := PLift.up hrg
      have hb2 := PLift.up hb
      have a3' := PLift.up a3
      have a6' := PLift.up a6
      clear hN hrg hb a1 a3 a4 a5 a6
      refine am ?_
      refine (At_spec h.app).mono ?_
      rintro _ _ ⟨⟨_, rfl⟩ | ⟨hno, _⟩, ⟨g1, rfl⟩⟩
      case inr => exact absurd hR'.down hno
      rw [eos'.down]
      refine am ?_
      obtain ⟨T, hT⟩ : ∃ T : Mem → Nat → Mem → Prop, T = fun I f M => ∃ v G2, M = m ++ .cells true [heapV H aw uw sv] :: .cells true [[.nils, .nils]] :: (g ++ .cells true [[lv]] :: .cells true [[.fn n_graph_Of_1 [] [.ptr (m.length + (g.length + 2)) 0 0]]] :: .cells true [[uN, rv2]] :: (G ++ (g1 ++ .cells true [[.int .i64 (H.a a % 256 : Nat), .int .u64 (unM (H.a a) : Nat)]] :: .cells true [[.int .u64 (a : Nat), .int .i64 (H.a a % 256 + 1 : Nat), v]] :: (I ++ G2)))) ∧ Gw (m.length + (g.length + (G.length + (g1.length + (I.length + 7))))) G2 v 1 (nats (refsTo H.a cs a f)) := ⟨_, rfl⟩
      have R := Refs_spec (each := .fn n_graph_Of_2 [] [.ptr (m.length + (g.length + (G.length + (g1.length + 1) + 1 + 1 + 1) + 1 + 1)) 0 0, .ptr (m.length + (g.length + 3)) 0 0]) (a := a) (T := T) (h.app (g := .cells true [heapV H aw uw sv] :: .cells true [[.nils, .nils]] :: (g ++ .cells true [[lv]] :: .cells true [[.fn n_graph_Of_1 [] [.ptr (m.length + (g.length + 2)) 0 0]]] :: .cells true [[uN, rv2]] :: (G ++ (g1 ++ [.cells true [[.int .i64 (H.a a % 256 : Nat), .int .u64 (unM (H.a a) : Nat)]], .cells true [[.int .u64 (a : Nat), .int .i64 (H.a a % 256 + 1 : Nat), .nils]]]))))) a2 a3'.down (by omega) rfl ?_ ?_ ?_ ?_ ?_
      · have hT' := PLift.up hT
        have R' := PLift.up R
        clear hT R
        refine R'.down.mono ?_
        rintro r M ⟨I, hM⟩
        rw [hT'.down] at hM
        obtain ⟨v, G2, rfl, h2⟩ := hM
        clear R' hT'
        have hle := @refsTo_le H.a cs a (H.a a % 256)
        have vc := h2.cell
        have Rs := set_spec (A := m ++ Blk.cells true [heapV H aw uw sv] :: .cells true [[.nils, .nils]] :: (g ++ .cells true [[lv]] :: .cells true [[.fn n_graph_Of_1 [] [.ptr (m.length + (g.length + 2)) 0 0]]] :: .cells true [[uN, rv2]] :: (G ++ (g1 ++ .cells true [[.int .i64 (H.a a % 256 : Nat), .int .u64 (unM (H.a a) : Nat)]] :: .cells true [[.int .u64 (a : Nat), .int .i64 (H.a a % 256 + 1 : Nat), v]] :: I)))) (g := G2) (G := []) (l := refsTo H.a cs a (H.a a % 256)) h2.cast (by omega)
        simp only [List.append_assoc, List.cons_append, List.nil_append, List.length_append, List.length_cons, List.length_nil, List.append_nil, Nat.zero_add] at Rs
        have Rs' := PLift.up Rs
        clear Rs h2 hle
        refine am ?_
        refine Rs'.down.mono ?_
        rintro tv _ ⟨G3, rfl, _, hrg, _, _⟩
        have tc := hrg.cell
        have hrg' := PLift.up hrg
        clear hrg Rs'
        have hNl : ((cs.take k).map (ndOf H.a cs)).length < 1000000 := by simp; omega
        obtain ⟨G', l1, hp, hnd, hkeep⟩ := Nd.push (A := m ++ Blk.cells true [heapV H aw uw sv] :: .cells true [[.nils, .nils]] :: (g ++ [.cells true [[lv]], .cells true [[.fn n_graph_Of_1 [] [.ptr (m.length + (g.length + 2)) 0 0]]], .cells true [[uN, rv2]]])) (G := G) hN2.down.cast hNl
        simp only [List.append_assoc, List.cons_append, List.nil_append, List.length_append, List.length_cons, List.length_nil] at hp
        have l1' := PLift.up l1
        have hnd' := PLift.up hnd
        have hkeep' := PLift.up hkeep
        clear l1 hnd hkeep hNl
        refine am ?_
        have et : (cs.take (k + 1)).map (ndOf H.a cs) = (cs.take k).map (ndOf H.a cs) ++ [ndOf H.a cs a] := by
          rw [List.take_add_one, nx_get hk, ea'.down]; simp
        have l1 := l1'.down
        have r0 : Rg (m.length + (g.length + 5) + G'.length + (g1 ++ [Blk.cells true [[.int .i64 (H.a a % 256 : Nat), .int .u64 (unM (H.a a) : Nat)]], Blk.cells true [[.int .u64 (a : Nat), .int .i64 (H.a a % 256 + 1 : Nat), tv]]]).length + I.length) (G3 ++ [Blk.cells true [[.int .u64 (a : Nat), .int .i64 (H.a a % 256 + 1 : Nat), tv]]]) tv (ndOf H.a cs a).to := hrg'.down.app.cast
        have r3 := Rg.pre G' (Rg.pre _ (Rg.pre I r0))
        have key := hnd'.down _ (ndOf H.a cs a) tv r3.cast
        refine ⟨_, byam, G' ++ (g1 ++ .cells true [[.int .i64 (H.a a % 256 : Nat), .int .u64 (unM (H.a a) : Nat)]] :: .cells true [[.int .u64 (a : Nat), .int .i64 (H.a a % 256 + 1 : Nat), tv]] :: (I ++ (G3 ++ [.cells true [[.int .u64 (a : Nat), .int .i64 (H.a a % 256 + 1 : Nat), tv]], .cells true (els ++ [[.int .u64 (a : Nat), .int .i64 (H.a a % 256 + 1 : Nat), tv]])]))), els ++ [[.int .u64 (a : Nat), .int .i64 (H.a a % 256 + 1 : Nat), tv]], rfl, ?_, ?_, ?_⟩
        · rw [et]
          have key2 := key.cast (c := m.length + (g.length + 5))
          simp only [List.append_assoc, List.cons_append, List.nil_append, List.length_append, List.length_cons, List.length_nil, Nat.zero_add, Nat.reduceAdd] at key2
          exact key2
        · exact (hkeep'.down _ _ hrg2.down.cast hb2.down).cast.app
        · intro c hc e
          have := hrg2.down.blk hc
          injection e with e
          omega
      · intro I
        rw [hT]
        exact ⟨.nils, [], by simp only [List.append_assoc, List.cons_append, List.nil_append, List.append_nil], .inl ⟨rfl, rfl⟩⟩
      · rintro I f M hM
        rw [hT] at hM
        obtain ⟨v, G2, rfl, _⟩ := hM
        refine ⟨fun j y hy => ?_, h.a.app⟩
        have e : ∀ (L1 : Mem) (x : Blk), (L1 ++ (x :: (I ++ G2)))[L1.length + 1 + j]? = some y := fun L1 x => by
          rw [List.getElem?_append_right (by omega), show L1.length + 1 + j - L1.length = j + 1 by omega, List.getElem?_cons_succ]
          exact getElem?_grow hy
        have := e (m ++ Blk.cells true [heapV H aw uw sv] :: .cells true [[.nils, .nils]] :: (g ++ .cells true [[lv]] :: .cells true [[.fn n_graph_Of_1 [] [.ptr (m.length + (g.length + 2)) 0 0]]] :: .cells true [[uN, rv2]] :: (G ++ (g1 ++ [.cells true [[.int .i64 (H.a a % 256 : Nat), .int .u64 (unM (H.a a) : Nat)]]])))) (.cells true [[.int .u64 (a : Nat), .int .i64 (H.a a % 256 + 1 : Nat), v]])
        simp only [List.append_assoc, List.cons_append, List.nil_append, List.length_append, List.length_cons, List.length_nil] at this ⊢
        rw [← this]
        congr 1
      · rintro I f M g' hM
        rw [hT] at hM ⊢
        obtain ⟨v, G2, rfl, h2⟩ := hM
        exact ⟨v, G2 ++ g', by simp only [List.append_assoc, List.cons_append], h2.app⟩
      · rintro I f M hf hb hM
        rw [hT] at hM ⊢
        have e : refsTo H.a cs a (f + 1) = refsTo H.a cs a f := if_neg (fun h => by rw [hb] at h; cases h.1)
        dsimp only at hM ⊢
        rw [e]
        exact hM
      · rintro I f M hf hb hM
        rw [hT] at hM
        obtain ⟨v, G2, rfl, h2⟩ := hM
        have hle := @refsTo_le H.a cs a f
        have hNu := hN'.down (.cells true [[lv]] :: .cells true [[.fn n_graph_Of_1 [] [.ptr (m.length + (g.length + 2)) 0 0]]] :: .cells true [[uN, rv2]] :: (G ++ (g1 ++ [.cells true [[.int .i64 (H.a a % 256 : Nat), .int .u64 (unM (H.a a) : Nat)]]])))
        have R := Of_2_spec (A := m ++ Blk.cells true [heapV H aw uw sv] :: .cells true [[.nils, .nils]] :: (g ++ .cells true [[lv]] :: .cells true [[.fn n_graph_Of_1 [] [.ptr (m.length + (g.length + 2)) 0 0]]] :: .cells true [[uN, rv2]] :: (G ++ (g1 ++ [.cells true [[.int .i64 (H.a a % 256 : Nat), .int .u64 (unM (H.a a) : Nat)]]])))) (J := I) (G := G2) (a := a) (n := H.a a % 256 + 1) (w := H.a (a + 1 + f)) (c8 := m.length + (g.length + 3)) (c6 := m.length + (g.length + 2)) (v := v) (lv := lv) (l := refsTo H.a cs a f) (cs := cs) byam byam hNu hcs'.down (by omega) (a6'.down f hf hb) (by omega) h2.cast
        have e : refsTo H.a cs a (f + 1) = if H.a (a + 1 + f) ≠ 0 then refsTo H.a cs a f ++ [plc cs (H.a (a + 1 + f))] else refsTo H.a cs a f := by
          show (if (unM (H.a a)).testBit f = true ∧ H.a (a + 1 + f) ≠ 0 then _ else _) = _
          simp only [hb, true_and]
        rw [hT]
        dsimp only
        rw [e]
        simp only [List.append_assoc, List.cons_append, List.nil_append, List.length_append, List.length_cons, List.length_nil, Nat.zero_add] at R
        refine C.mono R ?_
        rintro r _ ⟨v', G', rfl, h3⟩
        exact ⟨v', G', rfl, h3.cast⟩
    · rintro uN fr _ F ⟨G, els, rfl, hN, hrg, hb⟩
      rw [List.take_length] at hN
      have uc := hN.gw.cell
      have hgr := Nd.gr (X := []) (A := m ++ .cells true [heapV H aw uw sv] :: .cells true [[uN, rv2]] :: (g ++ [.cells true [[lv]], .cells true [[.fn n_graph_Of_1 [] [.ptr (m.length + (g.length + 2)) 0 0]]], .cells true [[uN, rv2]]])) (G := G) (uN := uN) (rv := rv2) (els := els) (R := R) (N := cs.map (ndOf H.a cs)) hN.cast (hrg.cast)
      simp only [List.append_assoc, List.cons_append, List.nil_append, List.append_nil] at hgr
      have hgr' := PLift.up hgr
      clear hN hrg hb hgr
      refine am ?_
      exact ⟨hofO.down _ _ _ hok'.down (eR ▸ hgr'.down), _, rfl⟩
end Go.AM.G
