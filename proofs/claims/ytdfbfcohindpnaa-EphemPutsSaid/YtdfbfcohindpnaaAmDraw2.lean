/- Regions that draw their order come to what the canonical order comes to. -/
import Derived.Test.YtdfbfcohindpnaaAmDraw
import Derived.Orders
set_option linter.unusedVariables false
set_option linter.unusedSimpArgs false
namespace Go.AM
open Go
section
variable {call : CallF} {base k : Nat}

theorem runOps_append {l1 l2 : List AOper} {fr : Frame} {m : Mem} {r : Frame × Mem} (h : runOps call base (l1 ++ l2) fr m = some r) :
    ∃ s : Frame × Mem, runOps call base l1 fr m = some s ∧ runOps call base l2 s.1 s.2 = some r := by
  induction l1 generalizing fr m with
  | nil => exact ⟨(fr, m), rfl, h⟩
  | cons o l1 ih =>
    simp only [List.cons_append, runOps] at h ⊢
    split at h
    · rename_i f1 m1 h1
      obtain ⟨s, h2, h3⟩ := ih h
      exact ⟨s, h2, h3⟩
    · cases h
theorem runOps_join {l1 l2 : List AOper} {fr : Frame} {m : Mem} {s r : Frame × Mem} (h : runOps call base l1 fr m = some s) (h' : runOps call base l2 s.1 s.2 = some r) : runOps call base (l1 ++ l2) fr m = some r := by
  induction l1 generalizing fr m with
  | nil => simp only [runOps, Option.some.injEq] at h; subst h; exact h'
  | cons o l1 ih =>
    simp only [List.cons_append, runOps] at h ⊢
    split at h
    · rename_i f1 m1 h1
      exact ih h
    · cases h
theorem run1_some {o : AOper} {fr : Frame} {m : Mem} {s : Frame × Mem} (h : run1 call base o fr m = some s) : ∃ v, val call base o fr m = some (v, s.2) ∧ s.1 = putO fr o.dst v := by
  rw [run1_val, Option.map_eq_some_iff] at h
  obtain ⟨⟨v, m'⟩, h1, rfl⟩ := h
  exact ⟨v, h1, rfl⟩
theorem some_run1 {o : AOper} {fr : Frame} {m m' : Mem} {v : V} (h : val call base o fr m = some (v, m')) : run1 call base o fr m = some (putO fr o.dst v, m') := by
  rw [run1_val, h]; rfl

theorem chkHas_less {z i i' : AOper} {d : Option Nat} (h : chkHas z i = true) (hs : noSlot d (gSlots z.g ++ (z.dst.toList ++ z.op.slots)) = true) (hi : i' = strike d i) : chkHas z i' = true := by
  subst hi
  cases hzo : z.op with
  | load kk a =>
    cases a with
    | c c => simp [chkHas, hzo] at h
    | t a =>
      cases hzd : z.dst with
      | none => simp [chkHas, hzo, hzd] at h
      | some e =>
        simp only [chkHas, hzo, hzd, List.any_eq_true] at h ⊢
        obtain ⟨c, hc, hh⟩ := h
        refine ⟨c, List.mem_filter.2 ⟨hc, ?_⟩, hh⟩
        obtain ⟨g', d', k', a'⟩ := c
        cases a' with
        | c c => simp at hh
        | t b =>
          simp only [Bool.and_eq_true, beq_iff_eq] at hh
          obtain ⟨⟨⟨rfl, rfl⟩, rfl⟩, rfl⟩ := hh
          refine noSlot_sub hs (fun x hx => ?_)
          simp only [chkSlots, List.flatMap_cons, List.flatMap_nil, List.append_nil, List.mem_append, List.mem_cons, Arg.slots, List.not_mem_nil, or_false] at hx
          simp only [List.mem_append, hzd, hzo, AOp.slots, Arg.slots, Option.toList_some, List.mem_singleton]
          rcases hx with hx | hx | hx
          · exact .inl hx
          · exact .inr (.inl hx)
          · exact .inr (.inr hx)
  | _ => simp [chkHas, hzo] at h
theorem lonely_strike {d : Option Nat} {i : AOper} (h : lonely k i = true) : lonely k (strike d i) = true := by
  simp only [lonely, Bool.and_eq_true, Bool.or_eq_true] at h ⊢
  refine ⟨?_, h.2⟩
  rcases h.1 with h1 | h1
  · exact .inl h1
  · right
    simp only [List.isEmpty_iff] at h1 ⊢
    simp [strike, h1]
/-- one that nothing ahead of it is asked for goes to the head. -/
theorem bubble (hfr : FrameC call) : ∀ (n : Nat) {pre : List AOper} {i : AOper} {fr : Frame} {m : Mem} {r : Frame × Mem}, pre.length = n → lonely k i = true → (∀ x ∈ pre, lonely k x = true ∧ indep x i = true ∧ resApart x i = true) →
    (∀ p x s, pre = p ++ x :: s → ∀ z ∈ p, steady z x = true) → (∀ j, i.res = some j → m[base + j]? = some .dead) → runOps call base (pre ++ [i]) fr m = some r →
    ∃ i', Less i' i ∧ runOps call base (i' :: pre) fr m = some r
  | 0, pre, i, fr, m, r, hn, _, _, _, _, h => by
    obtain rfl := List.eq_nil_of_length_eq_zero hn
    exact ⟨i, Less.refl i, h⟩
  | n + 1, pre, i, fr, m, r, hn, hi, hx, hst, hpend, h => by
    obtain ⟨p, x, rfl⟩ : ∃ p x, pre = p ++ [x] := by
      rcases List.eq_nil_or_concat pre with h | ⟨p, x, h⟩
      · subst h; simp at hn
      · exact ⟨p, x, by simpa using h⟩
    have hpn : p.length = n := by simpa using hn
    obtain ⟨lx, ix, rx⟩ := hx x (by simp)
    rw [List.append_assoc] at h
    obtain ⟨⟨f1, m1⟩, h1, h2⟩ := runOps_append h
    simp only [List.singleton_append, runOps] at h2
    split at h2
    case h_2 => cases h2
    rename_i f2 m2 hrx
    split at h2
    case h_2 => cases h2
    rename_i f3 m3 hri
    cases h2
    obtain ⟨v, vx, e1⟩ := run1_some hrx
    obtain ⟨u, vi, e2⟩ := run1_some hri
    simp only at vx e1 vi e2
    subst e1
    have hpend1 : ∀ j, i.res = some j → m1[base + j]? = some .dead := by
      intro j hj
      refine (runOps_fr (blk := .dead) hfr (hpend j hj) ?_ h1).1
      intro o ho t hto e
      have hh := (hx o (by simp [ho])).2.2
      simp only [resApart, hj, hto, Bool.or_eq_true, Option.isNone_some, Bool.false_eq_true, bne_iff_ne, ne_eq, false_or, Option.some.injEq] at hh
      omega
    obtain ⟨m1', g1, g2, g3⟩ := swap hfr lx hi ix rx hpend1 vx vi
    have e2 : f3 = putO (putO f1 (strike x.dst i).dst u) x.dst v := by rw [e2]; exact g3
    have g2' : run1 call base x (putO f1 (strike x.dst i).dst u) m1' = some (f3, m3) := by rw [e2]; exact some_run1 g2
    have h3 : runOps call base (p ++ [strike x.dst i]) fr m = some (putO f1 (strike x.dst i).dst u, m1') := by
      refine runOps_join h1 ?_
      simp only [runOps, some_run1 g1]
    have hzz : ∀ z ∈ p, lonely k z = true ∧ indep z (strike x.dst i) = true ∧ resApart z (strike x.dst i) = true := by
      intro z hz
      obtain ⟨lz, iz, rz⟩ := hx z (by simp [hz])
      refine ⟨lz, ?_, rz⟩
      have hsz := hst p x [] rfl z hz
      simp only [indep, Bool.and_eq_true, Bool.or_eq_true, apartA] at iz ⊢
      obtain ⟨i1, ⟨i2, i3, i4⟩, i5⟩ := iz
      refine ⟨i1, ⟨i2, i3, i4⟩, ?_⟩
      rcases i5 with i5 | i5
      · exact .inl i5
      · right
        refine chkHas_less i5 ?_ rfl
        have hzl : clsOf z.op = .load := by
          cases hzo : z.op <;> first | rfl | (simp [chkHas, hzo] at i5)
        simp only [steady, hzl, bne_self_eq_false, Bool.false_or] at hsz
        refine noSlot_sub hsz (fun y hy => ?_)
        simp only [AOper.reads, List.mem_append] at hy ⊢
        rcases hy with hy | hy | hy
        · exact .inl (.inl hy)
        · exact .inr hy
        · exact .inl (.inr hy)
    obtain ⟨i', l1, l2⟩ := bubble hfr n (pre := p) (i := strike x.dst i) hpn (lonely_strike hi) hzz (fun p' y s e z hz => hst p' y (s ++ [x]) (by rw [e]; simp) z hz) (fun j hj => hpend j hj) h3
    refine ⟨i', l1.trans (strike_less _ _), ?_⟩
    have : i' :: (p ++ [x]) = (i' :: p) ++ [x] := by simp
    rw [this]
    refine runOps_join l2 ?_
    simp only [runOps, g2']

/-- what is known of the rest of a region. -/
structure Rest (P : Program) (N : Nat) (ops : Array Oper) (bs : List Nat) (k : Nat) (c : List (Nat × AOper)) : Prop where
  comp : ∀ x ∈ c, ∃ o, ops[x.1]? = some o ∧ slotC N o.dst = some x.2.dst ∧ guardC N ops o.guard = some x.2.g ∧ compOp P N o = some x.2.op
  lone : ∀ x ∈ c, lonely k x.2 = true
  pairs : ∀ p x s, c = p ++ x :: s → ∀ z ∈ p, pairA bs z x = true
  nodup : ∀ p x s, c = p ++ x :: s → ∀ z, z ∈ p ∨ z ∈ s → z.1 ≠ x.1
  ahead : ∀ p x s, c = p ++ x :: s → ∀ o, ops[x.1]? = some o → ∀ e ∈ edges o, (∀ z ∈ x :: s, z.1 ≠ e) ∧ e < ops.size
  closed : ∀ j, j < ops.size → (∀ z ∈ c, z.1 ≠ j) → ∀ z ∈ c, (bs.getD j 0).testBit z.1 = false
theorem split_mid {α : Type} {pre post p s : List α} {x i : α} (h : pre ++ post = p ++ x :: s) : ∃ p' s', pre ++ i :: post = p' ++ x :: s' ∧ (∀ z ∈ p, z ∈ p') ∧ (∀ z ∈ s, z ∈ s') := by
  induction pre generalizing p with
  | nil => exact ⟨i :: p, s, by simp at h; simp [h], fun z hz => by simp [hz], fun z hz => hz⟩
  | cons a pre ih =>
    cases p with
    | nil =>
      simp only [List.cons_append, List.nil_append, List.cons.injEq] at h
      obtain ⟨rfl, rfl⟩ := h
      exact ⟨[], pre ++ i :: post, rfl, by simp, fun z hz => by
        rcases List.mem_append.1 hz with hz | hz
        · simp [hz]
        · simp [hz]⟩
    | cons b p =>
      simp only [List.cons_append, List.cons.injEq] at h
      obtain ⟨rfl, h⟩ := h
      obtain ⟨p', s', h1, h2, h3⟩ := ih h
      exact ⟨a :: p', s', by simp [h1], fun z hz => by
        rcases List.mem_cons.1 hz with rfl | hz
        · simp
        · simp [h2 z hz], h3⟩
theorem Rest.less {P : Program} {N : Nat} {ops : Array Oper} {bs : List Nat} {k : Nat} {pre post : List (Nat × AOper)} {i : Nat × AOper} (h : Rest P N ops bs k (pre ++ i :: post)) (hbit : ∀ z ∈ pre ++ post, (bs.getD i.1 0).testBit z.1 = false) : Rest P N ops bs k (pre ++ post) := by
  have sub : ∀ z ∈ pre ++ post, z ∈ pre ++ i :: post := fun z hz => by
    rcases List.mem_append.1 hz with hz | hz
    · simp [hz]
    · simp [hz]
  refine ⟨fun x hx => h.comp x (sub x hx), fun x hx => h.lone x (sub x hx), fun p x s e z hz => ?_, fun p x s e z hz => ?_, fun p x s e o ho e' he => ?_, fun j hj hz z hzm => ?_⟩
  · obtain ⟨p', s', h1, h2, h3⟩ := split_mid (i := i) e
    exact h.pairs p' x s' h1 z (h2 z hz)
  · obtain ⟨p', s', h1, h2, h3⟩ := split_mid (i := i) e
    exact h.nodup p' x s' h1 z (hz.imp (h2 z) (h3 z))
  · obtain ⟨p', s', h1, h2, h3⟩ := split_mid (i := i) e
    obtain ⟨a1, a2⟩ := h.ahead p' x s' h1 o ho e' he
    refine ⟨fun z hz => a1 z ?_, a2⟩
    rcases List.mem_cons.1 hz with rfl | hz
    · simp
    · simp [h3 z hz]
  · by_cases e : i.1 = j
    · subst e; exact hbit z hzm
    · refine h.closed j hj (fun y hy => ?_) z (sub z hzm)
      rcases List.mem_append.1 hy with hy | hy
      · exact hz y (by simp [hy])
      · rcases List.mem_cons.1 hy with rfl | hy
        · exact e
        · exact hz y (by simp [hy])
end
theorem draw_main {P : Program} {N : Nat} {ops : Array Oper} {bs : List Nat} {call : CallF} (hcall : SoundCall P call) (hfr : FrameC call) (hbits : bitsOk ops.toList bs = true) {base k : Nat} {Q : Exit → Act → World → Prop} {fr' : Frame} {m' : Mem} :
    ∀ (n : Nat) {c : List (Nat × AOper)} {listed : Array Bool} {φ : Phi} {fr : Frame} {m : Mem} {A : Act} {w : World}, c.length = n → Rest P N ops bs k c → listed.size = ops.size → (∀ j, j < ops.size → (listed.getD j true = false ↔ ∃ x ∈ c, x.1 = j)) →
    (∀ x ∈ c, ∀ t, x.2.res = some t → m[base + t]? = some .dead ∧ φ (base + t) = none) → runOps call base (c.map (·.2)) fr m = some (fr', m') → St φ m w → RF φ N fr A →
    (∀ φ' A' w', StpE (base ≤ ·) φ m w φ' m' w' → RF φ' N fr' A' → Q .normal A' w') → wpAny P .any ops Q n listed A w
  | 0, c, listed, φ, fr, m, A, w, hn, hR, hsz, hl, hpend, hrun, hst, hA, hQ => by
    obtain rfl := List.eq_nil_of_length_eq_zero hn
    simp only [List.map_nil, runOps, Option.some.injEq, Prod.mk.injEq] at hrun
    obtain ⟨rfl, rfl⟩ := hrun
    refine ⟨?_, hQ φ A w ((Stp.refl hst).weaken (fun _ h => h.elim)) hA⟩
    simp only [Region.ready, List.filter_eq_nil_iff, List.mem_range, Bool.and_eq_true, Bool.not_eq_true', not_and]
    intro j hj hf
    obtain ⟨x, hx, _⟩ := (hl j hj).1 hf
    simp at hx
  | n + 1, c, listed, φ, fr, m, A, w, hn, hR, hsz, hl, hpend, hrun, hst, hA, hQ => by
    have getD_eq : ∀ j, j < ops.size → listed.getD j false = listed.getD j true := by
      intro j hj
      have : j < listed.size := by omega
      simp [Array.getD, this]
    refine ⟨fun hnil => ?_, fun i hi => ?_⟩
    · cases c with
      | nil => simp at hn
      | cons y c =>
        exfalso
        obtain ⟨o, ho, _⟩ := hR.comp y (by simp)
        have hy : y.1 < ops.size := (Array.getElem?_eq_some_iff.1 ho).1
        have hmem : y.1 ∈ Region.ready .any ops listed := by
          simp only [Region.ready, List.mem_filter, List.mem_range, Bool.and_eq_true, Bool.not_eq_true']
          refine ⟨hy, (hl y.1 hy).2 ⟨y, by simp, rfl⟩, ?_⟩
          rw [ho]
          simp only [Option.map_some, Option.getD_some, Array.all_eq_true']
          intro e he
          cases hb : Region.binds .any e with
          | false => rfl
          | true =>
            have hedge : e.on ∈ edges o := by
              simp only [edges, List.mem_map, List.mem_filter]
              exact ⟨e, ⟨by simpa using he, hb⟩, rfl⟩
            obtain ⟨h1, h2⟩ := hR.ahead [] y c rfl o ho e.on hedge
            simp only [Bool.not_true, Bool.false_or]
            rw [getD_eq _ h2]
            cases hv : listed.getD e.on true with
            | true => rfl
            | false =>
              obtain ⟨x, hx, hxe⟩ := (hl e.on h2).1 hv
              exact absurd hxe (h1 x hx)
        rw [hnil] at hmem
        simp at hmem
    · simp only [Region.ready, List.mem_filter, List.mem_range, Bool.and_eq_true, Bool.not_eq_true'] at hi
      obtain ⟨hilt, hiun, hiedge⟩ := hi
      obtain ⟨x, hx, rfl⟩ := (hl i hilt).1 hiun
      obtain ⟨pre, post, rfl⟩ := List.append_of_mem hx
      obtain ⟨o, ho, c1, c2, c3⟩ := hR.comp x (by simp)
      rw [ho] at hiedge
      simp only [Option.map_some, Option.getD_some, Array.all_eq_true'] at hiedge
      -- nothing that is left goes ahead of it
      have hedge : ∀ e ∈ edges o, (∀ z ∈ pre ++ x :: post, z.1 ≠ e) ∧ e < ops.size := by
        intro e he
        have he' := he
        simp only [edges, List.mem_map, List.mem_filter] at he
        obtain ⟨ed, ⟨hm, hb⟩, rfl⟩ := he
        have hlt := (hR.ahead pre x post rfl o ho ed.on he').2
        have := hiedge ed (by simpa using hm)
        rw [hb] at this
        simp only [Bool.not_true, Bool.false_or] at this
        rw [getD_eq _ hlt] at this
        refine ⟨fun z hz e => ?_, hlt⟩
        have := (hl ed.on hlt).2 ⟨z, hz, e⟩
        simp_all
      have hbit : ∀ z ∈ pre ++ x :: post, (bs.getD x.1 0).testBit z.1 = false := by
        intro z hz
        cases hv : (bs.getD x.1 0).testBit z.1 with
        | false => rfl
        | true =>
          exfalso
          obtain ⟨oz, hoz, _⟩ := hR.comp z hz
          have hzlt : z.1 < ops.size := (Array.getElem?_eq_some_iff.1 hoz).1
          simp only [bitsOk, List.all_eq_true] at hbits
          have hin : (o, x.1) ∈ ops.toList.zipIdx := by
            rw [List.mem_zipIdx_iff_getElem?]
            simpa using ho
          have := hbits (o, x.1) hin z.1 (by simpa using hzlt)
          rw [hv] at this
          simp only [Bool.not_true, Bool.false_or, List.any_eq_true, Bool.or_eq_true, beq_iff_eq] at this
          obtain ⟨e, he, h⟩ := this
          obtain ⟨h1, h2⟩ := hedge e he
          rcases h with h | h
          · exact h1 z hz h.symm
          · have := hR.closed e h2 h1 z hz
            rw [h] at this
            cases this
      have hind : ∀ z ∈ pre, lonely k z.2 = true ∧ indep z.2 x.2 = true ∧ resApart z.2 x.2 = true := by
        intro z hz
        have hp := hR.pairs pre x post rfl z hz
        simp only [pairA, Bool.and_eq_true, Bool.or_eq_true] at hp
        obtain ⟨h1, _, h3⟩ := hp
        refine ⟨hR.lone z (by simp [hz]), ?_, h3⟩
        rcases h1 with h1 | h1
        · rw [hbit z (by simp [hz])] at h1; cases h1
        · exact h1
      have hmap : (pre ++ x :: post).map (·.2) = (pre.map (·.2) ++ [x.2]) ++ post.map (·.2) := by simp
      rw [hmap] at hrun
      obtain ⟨⟨fa, ma⟩, hr1, hr2⟩ := runOps_append hrun
      obtain ⟨x', hless, hr3⟩ := bubble (k := k) hfr pre.length (pre := pre.map (·.2)) (i := x.2) (by simp) (hR.lone x (by simp)) (fun z hz => by
          obtain ⟨z', hz', rfl⟩ := List.mem_map.1 hz
          exact hind z' hz') (fun p y s e z hz => by
          obtain ⟨p', ys, e1, e2, e3⟩ := List.map_eq_append_iff.1 e
          cases ys with
          | nil => simp at e3
          | cons y' s' =>
            simp only [List.map_cons, List.cons.injEq] at e3
            obtain ⟨rfl, rfl⟩ := e3
            subst e2
            obtain ⟨z', hz', rfl⟩ := List.mem_map.1 hz
            have hp := hR.pairs p' y' (s' ++ x :: post) (by rw [e1]; simp) z' hz'
            simp only [pairA, Bool.and_eq_true] at hp
            exact hp.2.1) (fun j hj => (hpend x (by simp) j hj).1) hr1
      simp only [runOps] at hr3
      split at hr3
      case h_2 => cases hr3
      rename_i f1 m1 hrx
      have hrest : runOps call base ((pre ++ post).map (·.2)) f1 m1 = some (fr', m') := by
        rw [List.map_append]
        exact runOps_join hr3 hr2
      obtain ⟨hd, hdl⟩ := slotC_lt c1
      have hR' : Rest P N ops bs k (pre ++ post) := hR.less (fun z hz => hbit z (by
        rcases List.mem_append.1 hz with hz | hz
        · simp [hz]
        · simp [hz]))
      have hlen' : (pre ++ post).length = n := by simp at hn ⊢; omega
      have hne : ∀ z ∈ pre ++ post, z.1 ≠ x.1 := fun z hz => hR.nodup pre x post rfl z (List.mem_append.1 hz)
      have hl' : ∀ j, j < ops.size → ((listed.setIfInBounds x.1 true).getD j true = false ↔ ∃ y ∈ pre ++ post, y.1 = j) := by
        intro j hj
        by_cases e : j = x.1
        · subst e
          constructor
          · intro h
            have : x.1 < listed.size := by omega
            simp [Array.getD, this] at h
          · rintro ⟨y, hy, e⟩
            exact absurd e (hne y hy)
        · have h1 : (listed.setIfInBounds x.1 true).getD j true = listed.getD j true := by
            simp [Array.getD_eq_getD_getElem?, Array.getElem?_setIfInBounds_ne (Ne.symm e)]
          rw [h1, hl j hj]
          constructor
          · rintro ⟨y, hy, rfl⟩
            rcases List.mem_append.1 hy with hy | hy
            · exact ⟨y, by simp [hy], rfl⟩
            · rcases List.mem_cons.1 hy with rfl | hy
              · exact absurd rfl e
              · exact ⟨y, by simp [hy], rfl⟩
          · rintro ⟨y, hy, rfl⟩
            rcases List.mem_append.1 hy with hy | hy
            · exact ⟨y, by simp [hy], rfl⟩
            · exact ⟨y, by simp [hy], rfl⟩
      have hres : ∀ y ∈ pre ++ post, ∀ t, y.2.res = some t → ∀ j, x.2.res = some j → j ≠ t := by
        intro y hy t ht j hj e
        subst e
        have h3 : resApart y.2 x.2 = true ∨ resApart x.2 y.2 = true := by
          rcases List.mem_append.1 hy with hy | hy
          · left
            have hp := hR.pairs pre x post rfl y hy
            simp only [pairA, Bool.and_eq_true] at hp
            exact hp.2.2
          · right
            obtain ⟨s1, s2, rfl⟩ := List.append_of_mem hy
            have hp := hR.pairs (pre ++ x :: s1) y s2 (by simp) x (by simp)
            simp only [pairA, Bool.and_eq_true] at hp
            exact hp.2.2
        simp [resApart, ht, hj] at h3
      have hpend' : ∀ {φ1 : Phi}, (∀ b, b < m.length → ¬ (x'.res.map (base + ·) = some b) → φ b = none → φ1 b = none) → ∀ y ∈ pre ++ post, ∀ t, y.2.res = some t → m1[base + t]? = some .dead ∧ φ1 (base + t) = none := by
        intro φ1 hold y hy t ht
        obtain ⟨h1, h2⟩ := hpend y (by
          rcases List.mem_append.1 hy with hy | hy
          · simp [hy]
          · simp [hy]) t ht
        have hnt : ∀ j, x'.res = some j → base + j ≠ base + t := by
          intro j hj
          have := hres y hy t ht j (by rw [← hless.res]; exact hj)
          omega
        refine ⟨(run1_fr (blk := .dead) hfr h1 hnt hrx).1, hold _ (List.getElem?_eq_some_iff.1 h1).1 ?_ h2⟩
        intro e
        cases hr : x'.res with
        | none => rw [hr] at e; cases e
        | some j => rw [hr] at e; simp at e; exact hnt j hr (by rw [e])
      unfold wpOp
      rw [ho]
      simp only
      unfold run1 at hrx
      rw [wanted_sound c2 hA, ← hless.g]
      split at hrx
      · rename_i hw
        rw [if_pos hw]
        left
        split at hrx
        case h_2 => cases hrx
        rename_i v m2 hs
        split at hrx
        case isFalse => cases hrx
        cases hrx
        rw [hless.op] at hs
        refine step_sound hcall c3 hst hA (tgt := x'.res.map (base + ·)) (fun b hb => ?_) hs ?_
        · rw [hless.res] at hb
          cases hr : x.2.res with
          | none => rw [hr] at hb; cases hb
          | some t =>
            rw [hr] at hb
            simp at hb
            rw [← hb]
            exact (hpend x (by simp) t hr).2
        · intro φ1 w1 cv hstp hv
          rw [hless.dst, hd] at hrest
          exact draw_main hcall hfr hbits n hlen' hR' (by simpa using hsz) hl' (hpend' hstp.old) hrest hstp.st ((hA.ext hstp.ext).putO hdl hv) (fun φ' A' w' h1 h2 => hQ φ' A' w' ((hstp.weaken (fun b hb => by
            cases hr : x'.res with
            | none => rw [hr] at hb; cases hb
            | some t => rw [hr] at hb; simp at hb; omega)).trans h1) h2)
      · rename_i hw
        rw [if_neg hw]
        cases hrx
        rw [hless.dst, hd] at hrest
        exact draw_main hcall hfr hbits n hlen' hR' (by simpa using hsz) hl' (hpend' (fun b _ _ h => h)) hrest hst (hA.undef hdl) hQ
end Go.AM
