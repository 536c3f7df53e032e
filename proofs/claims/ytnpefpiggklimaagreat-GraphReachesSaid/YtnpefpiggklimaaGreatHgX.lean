/- The walk: of the program. -/
import Derived.Test.YtnpefpiggklimaaGreatHgA
import Derived.Test.YtnpefpiggklimaaGreatHmA
set_option linter.unusedVariables false
set_option linter.unusedSimpArgs false

set_option maxRecDepth 100000
namespace Go.AM.G
open Go Go.AM
theorem BI.weaken {to : Nat → List Nat} {src : List Nat} {but : Int} {n : Nat} {s : BS} {d d' : Int} (h : BI to src but n s d) (hd : ∀ p, p ∈ s.todo → s.far p ≤ d') : BI to src but n s d' := ⟨h.nd, h.mem, h.ok, h.way, h.srt, hd⟩
theorem nats_get {l : List Nat} {i p : Nat} (h : l[i]? = some p) : (nats l)[i]? = some [V.int .i64 (p : Int)] := by simp [h]
theorem walk_spec {m : Mem} {Nb : Nat} {own : Bool} {nv rv fv : V} {N : List NodeA} {R : List Int} {src : List Nat} {but : Int} (hG : Gr m nv rv N R) (hf : Fits N R) (hval : validG N R = true) (hN : m[Nb]? = some (.cells own [[nv, rv]])) (hsrc : Sl m fv 1 (nats src)) (hsl : ∀ p, p ∈ src → p < N.length) (hsn : src.length < 2 ^ 60) :
    C S n_graph_net_walk [.ptr Nb 0 0, fv, .int .i64 but] m (fun r m' => Grow m m' ∧ ∃ far, Sl m' r 1 (intF N.length far) ∧ (∀ p, 0 ≤ far p → Pth (toN N) src but (far p).toNat p ∧ p < N.length) ∧ (∀ k p, Pth (toN N) src but k p → 0 ≤ far p ∧ far p ≤ k)) := by
  obtain ⟨hn, hto, hlt, _, _, _⟩ := valid_to hval
  have hne' := hG
  obtain ⟨_, els0, hne0, hel0, _⟩ := hne'
  generalize hnn : N.length = n at *
  refine C_body rfl rfl rfl ?_
  unfold graph_net_walk
  have hN1 : ∀ g1 g2 : Mem, (m ++ g1 ++ g2)[Nb]? = some (.cells own [[nv, rv]]) := fun g1 g2 => getElem?_grow (getElem?_grow hN)
  have ldN := fun g1 g2 j k => load_at0 (k := k) (j := j) (hN1 g1 g2)
  simp (maxDischargeDepth := 30) only [ldN, hne0.len, hel0, amL, args0, Nat.reduceEqDiff, reduceCtorEq, ↓reduceIte, Nat.reduceAdd, resultsA, results1, Int.reduceNeg, splice, Nat.reduceLeDiff, part, fillA, fillE, Nat.reduceLT]
  have hxl : (m ++ [Blk.cells true [[V.int .i64 but]]]).length = m.length + 1 := by simp
  refine (Repeat_spec (own := true) (-1) n (by exact List.getElem?_concat_length) (by omega)).mono ?_
  rintro v M2 ⟨hg2, bf, cap, ex, hbf, rfl, hd2, hcap⟩
  rw [List.length_replicate] at hcap
  rw [intF_rep] at hd2
  have hgm2 : Grow m M2 := ((Grow.refl m).app (g := [Blk.cells true [[V.int .i64 but]]])).app.trans hg2
  have hb2 : M2[m.length]? = some (.cells true [[V.int .i64 but]]) := hg2.get (getElem?_grow (by simp))
  have hbf2 : m.length + 2 ≤ bf := by simp at hbf; omega
  have hbfl := (List.getElem?_eq_some_iff.1 hd2).1
  have hrl : (List.replicate n (-1 : Int)).length = n := by simp
  simp (maxDischargeDepth := 30) only [aft_mk, hrl, amL, args0, Nat.reduceEqDiff, reduceCtorEq, ↓reduceIte, Nat.reduceAdd, resultsA, results1, Int.reduceNeg, splice, Nat.reduceLeDiff, part, fillA, fillE, Nat.reduceLT]
  have hM3 : (M2 ++ [Blk.cells true [[V.slice bf 0 n cap ex 1]]]).length = M2.length + 1 := by simp
  have hW : WM m.length bf M2.length but n cap ex (M2 ++ [Blk.cells true [[V.slice bf 0 n cap ex 1]]] ++ [Blk.cells true [[V.nils]]]) ⟨fun _ => -1, []⟩ .nils :=
    ⟨by omega, hbfl, getElem?_grow (getElem?_grow hb2), getElem?_grow (by simp), getElem?_grow (getElem?_grow hd2), by rw [← hM3]; exact List.getElem?_concat_length, .inl ⟨rfl, rfl⟩⟩
  have hgm4 : Grow m (M2 ++ [Blk.cells true [[V.slice bf 0 n cap ex 1]]] ++ [Blk.cells true [[V.nils]]]) := hgm2.app.app
  generalize hM4 : M2 ++ [Blk.cells true [[V.slice bf 0 n cap ex 1]]] ++ [Blk.cells true [[V.nils]]] = M4 at hW hgm4
  have hsln : (nats src).length = src.length := by simp
  generalize hPf : M2.length = Pf at hW hM3
  simp (maxDischargeDepth := 30) only [hsrc.len, hsln, hM3, amL, args0, Nat.reduceEqDiff, reduceCtorEq, ↓reduceIte, Nat.reduceAdd, resultsA, results1, Int.reduceNeg, splice, Nat.reduceLeDiff, part, fillA, fillE, Nat.reduceLT]
  let fnV : V := .fn n_graph_net_walk_1 [] [.ptr m.length 0 0, .ptr Pf 0 0, .ptr (Pf + 1) 0 0]
  have hBI0 : BI (toN N) src but n ⟨fun _ => -1, []⟩ 0 := ⟨List.nodup_nil, fun p => by simp, fun p hp => by simp at hp, fun p hp => by simp at hp, List.Pairwise.nil, fun p hp => by simp at hp⟩
  let I := fun (k : Nat) (fr : Frame) (M : Mem) => ∃ i s tv, i ≤ src.length ∧ k = src.length - i ∧ fr 0 = .ptr Nb 0 0 ∧ fr 7 = .ptr Pf 0 0 ∧ fr 8 = .ptr (Pf + 1) 0 0 ∧ fr 9 = fnV ∧ fr 25 = fv ∧ fr 26 = .int .i64 src.length ∧ fr 27 = .int .i64 i ∧ WM m.length bf Pf but n cap ex M s tv ∧ Grow m M ∧ BI (toN N) src but n s 0 ∧ ∀ j p, j < i → src[j]? = some p → (p : Int) ≠ but → s.far p = 0
  refine W_loop I ?_ src.length ?_
  · rintro k fr M ⟨i, s, tv, hi, rfl, f0, f7, f8, f9, f25, f26, f27, hW, hg, hBI, hs⟩
    unfold graph_net_walk_l0
    simp (maxDischargeDepth := 30) only [f0, f7, f8, f9, f25, f26, f27, amL, args0, Nat.reduceEqDiff, reduceCtorEq, ↓reduceIte, Nat.reduceAdd, resultsA, results1, Int.reduceNeg, splice, Nat.reduceLeDiff, part, fillA, fillE, Nat.reduceLT]
    first | (refine O_split (by simp only [put_apply, Nat.reduceEqDiff, ↓reduceIte, reduceCtorEq]; rfl) (fun h => ?_) (fun h => ?_) <;> simp only [decide_eq_true_eq, decide_eq_false_iff_not, Decidable.not_not, Bool.and_eq_true, Bool.not_eq_true', Bool.not_eq_false'] at h) | (refine W_split (by simp only [get_t, put_apply, Nat.reduceEqDiff, ↓reduceIte, reduceCtorEq]; rfl) (fun h => ?_) (fun h => ?_) <;> simp only [decide_eq_true_eq, decide_eq_false_iff_not, Decidable.not_not, Bool.and_eq_true, Bool.not_eq_true', Bool.not_eq_false'] at h)
    · have hil : i < src.length := by omega
      obtain ⟨p, hp⟩ : ∃ p, src[i]? = some p := ⟨_, List.getElem?_eq_getElem hil⟩
      have hpn := hsl p (List.mem_of_getElem? hp)
      have hsM := hsrc.grow hg
      have ix := hsM.index (ki := .i64) (n := i) (by omega) (by rw [hsln]; omega)
      have ld := fun o k => hsM.load (o := o) (k := k) (nats_get hp)
      simp only [Int.toNat_natCast] at ix ld
      have w1 : IntKind.i64.wrap ((i : Int) + 1) = ((i + 1 : Nat) : Int) := by rw [wrap_i64] <;> omega
      have htl := nodup_le n _ hBI.nd (fun x hx => (hBI.ok x hx).1)
      obtain ⟨b1, b2, b3, _⟩ := hBI.see hpn (Int.le_refl 0) (fun hb => .start (List.mem_of_getElem? hp) hb)
      simp (maxDischargeDepth := 30) only [h, f0, f7, f8, f9, f25, f26, f27, ix, ld, amL, args0, Nat.reduceEqDiff, reduceCtorEq, ↓reduceIte, Nat.reduceAdd, resultsA, results1, Int.reduceNeg, splice, Nat.reduceLeDiff, part, fillA, fillE, Nat.reduceLT]
      refine (see_spec 0 hW hg (Nat.le_refl _) hpn hn htl).mono ?_
      rintro _ M' ⟨tv', hW', hg'⟩
      simp (maxDischargeDepth := 30) only [aft_mk, f0, f7, f8, f9, f25, f26, f27, w1, amL, args0, Nat.reduceEqDiff, reduceCtorEq, ↓reduceIte, Nat.reduceAdd, resultsA, results1, Int.reduceNeg, splice, Nat.reduceLeDiff, part, fillA, fillE, Nat.reduceLT]
      refine ⟨_, ?_, i + 1, _, tv', by omega, rfl, ?_, ?_, ?_, ?_, ?_, ?_, ?_, hW', hg', b1, fun j x hj hx hxb => ?_⟩
      · omega
      · simp (maxDischargeDepth := 30) only [f0, amL, args0, Nat.reduceEqDiff, reduceCtorEq, ↓reduceIte, Nat.reduceAdd, resultsA, results1, Int.reduceNeg, splice, Nat.reduceLeDiff, part, fillA, fillE, Nat.reduceLT]
      · simp (maxDischargeDepth := 30) only [f7, amL, args0, Nat.reduceEqDiff, reduceCtorEq, ↓reduceIte, Nat.reduceAdd, resultsA, results1, Int.reduceNeg, splice, Nat.reduceLeDiff, part, fillA, fillE, Nat.reduceLT]
      · simp (maxDischargeDepth := 30) only [f8, amL, args0, Nat.reduceEqDiff, reduceCtorEq, ↓reduceIte, Nat.reduceAdd, resultsA, results1, Int.reduceNeg, splice, Nat.reduceLeDiff, part, fillA, fillE, Nat.reduceLT]
      · simp (maxDischargeDepth := 30) only [f9, amL, args0, Nat.reduceEqDiff, reduceCtorEq, ↓reduceIte, Nat.reduceAdd, resultsA, results1, Int.reduceNeg, splice, Nat.reduceLeDiff, part, fillA, fillE, Nat.reduceLT]
      · simp (maxDischargeDepth := 30) only [f25, amL, args0, Nat.reduceEqDiff, reduceCtorEq, ↓reduceIte, Nat.reduceAdd, resultsA, results1, Int.reduceNeg, splice, Nat.reduceLeDiff, part, fillA, fillE, Nat.reduceLT]
      · simp (maxDischargeDepth := 30) only [f26, amL, args0, Nat.reduceEqDiff, reduceCtorEq, ↓reduceIte, Nat.reduceAdd, resultsA, results1, Int.reduceNeg, splice, Nat.reduceLeDiff, part, fillA, fillE, Nat.reduceLT]
      · simp (maxDischargeDepth := 30) only [amL, args0, Nat.reduceEqDiff, reduceCtorEq, ↓reduceIte, Nat.reduceAdd, resultsA, results1, Int.reduceNeg, splice, Nat.reduceLeDiff, part, fillA, fillE, Nat.reduceLT]
      · by_cases e : j = i
        · rw [e, hp] at hx
          cases hx
          have := b3 hxb; omega
        · have h0 := hs j x (by omega) hx hxb
          rw [b2 x (by omega)]; exact h0
    · have hii : i = src.length := by omega
      subst hii
      have hs' : ∀ p, p ∈ src → (p : Int) ≠ but → s.far p = 0 := fun p hp hb => by
        obtain ⟨j, hj⟩ := List.getElem?_of_mem hp
        exact hs j p (List.getElem?_eq_some_iff.1 hj).1 hj hb
      simp (maxDischargeDepth := 30) only [h, f0, f7, f8, f9, f25, f26, f27, amL, args0, Nat.reduceEqDiff, reduceCtorEq, ↓reduceIte, Nat.reduceAdd, resultsA, results1, Int.reduceNeg, splice, Nat.reduceLeDiff, part, fillA, fillE, Nat.reduceLT]
      let J := fun (k : Nat) (fr : Frame) (M : Mem) => ∃ i s tv, k = n - i ∧ fr 0 = .ptr Nb 0 0 ∧ fr 7 = .ptr Pf 0 0 ∧ fr 8 = .ptr (Pf + 1) 0 0 ∧ fr 9 = fnV ∧ fr 12 = .int .i64 (i : Nat) ∧ i ≤ s.todo.length ∧ WM m.length bf Pf but n cap ex M s tv ∧ Grow m M ∧ BI (toN N) src but n s i ∧ (∀ x, s.todo[i]? = some x → ∀ p, p ∈ s.todo → s.far p ≤ s.far x + 1) ∧ (∀ p, p ∈ src → (p : Int) ≠ but → s.far p = 0) ∧ (∀ j p, j < i → s.todo[j]? = some p → ∀ q, q ∈ toN N p → (q : Int) ≠ but → 0 ≤ s.far q ∧ s.far q ≤ s.far p + 1)
      refine W_loop J ?_ n ?_
      · rintro k fr M ⟨i, s, tv, rfl, f0, f7, f8, f9, f12, hi, hW, hg, hBI, htop, hs, hpr⟩
        unfold graph_net_walk_l1
        have lt := fun k => load_at0 (k := k) (j := 0) hW.t
        have htvl := hW.g.sl.len
        have hntl : (nats s.todo).length = s.todo.length := by simp
        rw [hntl] at htvl
        have htl := nodup_le n _ hBI.nd (fun x hx => (hBI.ok x hx).1)
        simp (maxDischargeDepth := 30) only [f0, f7, f8, f9, f12, lt, htvl, amL, args0, Nat.reduceEqDiff, reduceCtorEq, ↓reduceIte, Nat.reduceAdd, resultsA, results1, Int.reduceNeg, splice, Nat.reduceLeDiff, part, fillA, fillE, Nat.reduceLT]
        first | (refine O_split (by simp only [put_apply, Nat.reduceEqDiff, ↓reduceIte, reduceCtorEq]; rfl) (fun h' => ?_) (fun h' => ?_) <;> simp only [decide_eq_true_eq, decide_eq_false_iff_not, Decidable.not_not, Bool.and_eq_true, Bool.not_eq_true', Bool.not_eq_false'] at h') | (refine W_split (by simp only [get_t, put_apply, Nat.reduceEqDiff, ↓reduceIte, reduceCtorEq]; rfl) (fun h' => ?_) (fun h' => ?_) <;> simp only [decide_eq_true_eq, decide_eq_false_iff_not, Decidable.not_not, Bool.and_eq_true, Bool.not_eq_true', Bool.not_eq_false'] at h')
        · have hil : i < s.todo.length := by omega
          obtain ⟨p, hp⟩ : ∃ p, s.todo[i]? = some p := ⟨_, List.getElem?_eq_getElem hil⟩
          have hpm := List.mem_of_getElem? hp
          have hpn := (hBI.ok p hpm).1
          have hp0 := (hBI.mem p).1 hpm
          have hpi := hBI.top p hpm
          have ixt := hW.g.sl.index (ki := .i64) (n := i) (by omega) (by rw [hntl]; omega)
          have ldt := fun o k => hW.g.sl.load (o := o) (k := k) (nats_get hp)
          simp only [Int.toNat_natCast] at ixt ldt
          obtain ⟨nd, hnd⟩ : ∃ nd, N[p]? = some nd := ⟨_, List.getElem?_eq_getElem (by omega)⟩
          obtain ⟨_, els, hne, hel, hnds⟩ := hG.grow hg
          obtain ⟨tov, hte, htv⟩ := hnds p nd hnd
          rw [hto p nd hnd] at htv
          have ixn := hne.index (ki := .i64) (n := p) (by omega) (by omega)
          have ldn := fun o k => hne.load (o := o) (k := k) hte
          simp only [Int.toNat_natCast] at ixn
          have ldNM := fun j k => load_at0 (k := k) (j := j) (hg.get hN)
          have hfit : (toN N p).length < 2 ^ 60 := by
            have h1 := hf.2.2 nd (List.mem_of_getElem? hnd)
            rw [hto p nd hnd] at h1
            simpa using h1
          have htl2 : (i64s (ints' (toN N p))).length = (toN N p).length := by simp
          have htol := htv.len
          rw [htl2] at htol
          have w1 : IntKind.i64.wrap ((i : Int) + 1) = ((i + 1 : Nat) : Int) := by rw [wrap_i64] <;> omega
          simp (maxDischargeDepth := 30) only [h', f0, f7, f8, f9, f12, lt, ixt, ldt, ldNM, ixn, ldn, htol, amL, args0, Nat.reduceEqDiff, reduceCtorEq, ↓reduceIte, Nat.reduceAdd, resultsA, results1, Int.reduceNeg, splice, Nat.reduceLeDiff, part, fillA, fillE, Nat.reduceLT]
          let K := fun (k : Nat) (fr : Frame) (M' : Mem) => ∃ j s' tv', j ≤ (toN N p).length ∧ k = (toN N p).length - j ∧ fr 0 = .ptr Nb 0 0 ∧ fr 7 = .ptr Pf 0 0 ∧ fr 8 = .ptr (Pf + 1) 0 0 ∧ fr 9 = fnV ∧ fr 12 = .int .i64 (i : Nat) ∧ fr 13 = .int .i64 (p : Nat) ∧ fr 53 = tov ∧ fr 54 = .int .i64 (toN N p).length ∧ fr 55 = .int .i64 (j : Nat) ∧ WM m.length bf Pf but n cap ex M' s' tv' ∧ Grow m M' ∧ SlR M' tov 1 (i64s (ints' (toN N p))) ∧ BI (toN N) src but n s' (s.far p + 1) ∧ (∀ q, 0 ≤ s.far q → s'.far q = s.far q) ∧ (∃ r, s'.todo = s.todo ++ r) ∧ (∀ q, q ∈ (toN N p).take j → (q : Int) ≠ but → 0 ≤ s'.far q ∧ s'.far q ≤ s.far p + 1)
          refine W_loop K ?_ (toN N p).length ?_
          · rintro k fr M' ⟨j, s', tv', hj, rfl, g0, g7, g8, g9, g12, g13, g53, g54, g55, hW', hg', htv', hBI', hkeep, ⟨r, hr⟩, hdone⟩
            unfold graph_net_walk_l2
            simp (maxDischargeDepth := 30) only [g0, g7, g8, g9, g12, g13, g53, g54, g55, amL, args0, Nat.reduceEqDiff, reduceCtorEq, ↓reduceIte, Nat.reduceAdd, resultsA, results1, Int.reduceNeg, splice, Nat.reduceLeDiff, part, fillA, fillE, Nat.reduceLT]
            first | (refine O_split (by simp only [put_apply, Nat.reduceEqDiff, ↓reduceIte, reduceCtorEq]; rfl) (fun h2 => ?_) (fun h2 => ?_) <;> simp only [decide_eq_true_eq, decide_eq_false_iff_not, Decidable.not_not, Bool.and_eq_true, Bool.not_eq_true', Bool.not_eq_false'] at h2) | (refine W_split (by simp only [get_t, put_apply, Nat.reduceEqDiff, ↓reduceIte, reduceCtorEq]; rfl) (fun h2 => ?_) (fun h2 => ?_) <;> simp only [decide_eq_true_eq, decide_eq_false_iff_not, Decidable.not_not, Bool.and_eq_true, Bool.not_eq_true', Bool.not_eq_false'] at h2)
            · have hjl : j < (toN N p).length := by omega
              obtain ⟨q, hq⟩ : ∃ q, (toN N p)[j]? = some q := ⟨_, List.getElem?_eq_getElem hjl⟩
              have hqn : q < n := hlt p q (List.mem_of_getElem? hq)
              have ixq := htv'.index (ki := .i64) (n := j) (by omega) (by rw [htl2]; omega)
              have ldq := fun o k => htv'.load (o := o) (k := k) (i := j) (el := [.int .i64 (q : Int)]) (by simp [hq])
              have lf := fun k => load_at0 (k := k) (j := 0) hW'.f
              have ixf := hW'.slF.index (ki := .i64) (n := p) (by omega) (by rw [intF_len]; omega)
              have ldf := fun o k => hW'.slF.load (o := o) (k := k) (intF_get hpn)
              rw [hkeep p hp0] at ldf
              simp only [Int.toNat_natCast] at ixq ldq ixf
              have w2 : IntKind.i64.wrap (s.far p + 1) = s.far p + 1 := by rw [wrap_i64] <;> omega
              have w3 : IntKind.i64.wrap ((j : Int) + 1) = ((j + 1 : Nat) : Int) := by rw [wrap_i64] <;> omega
              have htl' := nodup_le n _ hBI'.nd (fun x hx => (hBI'.ok x hx).1)
              have hway := hBI.way p hpm
              have hnat : (s.far p + 1).toNat = (s.far p).toNat + 1 := by omega
              obtain ⟨b1, b2, b3, r2, b4⟩ := hBI'.see hqn (by omega) (fun hb => by rw [hnat]; exact .step hway (List.mem_of_getElem? hq) hb)
              simp (maxDischargeDepth := 30) only [h2, g0, g7, g8, g9, g12, g13, g53, g54, g55, ixq, ldq, lf, ixf, ldf, w2, amL, args0, Nat.reduceEqDiff, reduceCtorEq, ↓reduceIte, Nat.reduceAdd, resultsA, results1, Int.reduceNeg, splice, Nat.reduceLeDiff, part, fillA, fillE, Nat.reduceLT]
              refine (see_spec (s.far p + 1) hW' hg' (Nat.le_refl _) hqn hn htl').mono ?_
              rintro _ M'' ⟨tv'', hW'', hg''⟩
              obtain ⟨_, els2, hne2, _, hnds2⟩ := hG.grow hg''
              obtain ⟨tov2, hte2, htv2⟩ := hnds2 p nd hnd
              rw [hto p nd hnd] at htv2
              have htov : tov2 = tov := by
                obtain ⟨_, els3, hne3, _, hnds3⟩ := hG
                obtain ⟨t3, e3, _⟩ := hnds3 p nd hnd
                have h5 := hne3.grow hg
                have h6 := hne3.grow hg''
                have e5 : els = els3 := by have := hne.1.symm.trans h5.1; simpa using this
                have e6 : els2 = els3 := by have := hne2.1.symm.trans h6.1; simpa using this
                rw [e5, e3] at hte
                rw [e6, e3] at hte2
                simp only [Option.some.injEq, List.cons.injEq, and_true, true_and] at hte hte2
                rw [← hte, ← hte2]
              simp (maxDischargeDepth := 30) only [aft_mk, g0, g7, g8, g9, g12, g13, g53, g54, g55, w3, amL, args0, Nat.reduceEqDiff, reduceCtorEq, ↓reduceIte, Nat.reduceAdd, resultsA, results1, Int.reduceNeg, splice, Nat.reduceLeDiff, part, fillA, fillE, Nat.reduceLT]
              obtain ⟨hj1, hj2⟩ := List.getElem?_eq_some_iff.1 hq
              refine ⟨_, ?_, j + 1, _, tv'', by omega, rfl, ?_, ?_, ?_, ?_, ?_, ?_, ?_, ?_, ?_, hW'', hg'', htov ▸ htv2, b1, ?_, ⟨r ++ r2, by rw [b4, hr, List.append_assoc]⟩, ?_⟩
              · omega
              · simp (maxDischargeDepth := 30) only [g0, amL, args0, Nat.reduceEqDiff, reduceCtorEq, ↓reduceIte, Nat.reduceAdd, resultsA, results1, Int.reduceNeg, splice, Nat.reduceLeDiff, part, fillA, fillE, Nat.reduceLT]
              · simp (maxDischargeDepth := 30) only [g7, amL, args0, Nat.reduceEqDiff, reduceCtorEq, ↓reduceIte, Nat.reduceAdd, resultsA, results1, Int.reduceNeg, splice, Nat.reduceLeDiff, part, fillA, fillE, Nat.reduceLT]
              · simp (maxDischargeDepth := 30) only [g8, amL, args0, Nat.reduceEqDiff, reduceCtorEq, ↓reduceIte, Nat.reduceAdd, resultsA, results1, Int.reduceNeg, splice, Nat.reduceLeDiff, part, fillA, fillE, Nat.reduceLT]
              · simp (maxDischargeDepth := 30) only [g9, amL, args0, Nat.reduceEqDiff, reduceCtorEq, ↓reduceIte, Nat.reduceAdd, resultsA, results1, Int.reduceNeg, splice, Nat.reduceLeDiff, part, fillA, fillE, Nat.reduceLT]
              · simp (maxDischargeDepth := 30) only [g12, amL, args0, Nat.reduceEqDiff, reduceCtorEq, ↓reduceIte, Nat.reduceAdd, resultsA, results1, Int.reduceNeg, splice, Nat.reduceLeDiff, part, fillA, fillE, Nat.reduceLT]
              · simp (maxDischargeDepth := 30) only [g13, amL, args0, Nat.reduceEqDiff, reduceCtorEq, ↓reduceIte, Nat.reduceAdd, resultsA, results1, Int.reduceNeg, splice, Nat.reduceLeDiff, part, fillA, fillE, Nat.reduceLT]
              · simp (maxDischargeDepth := 30) only [g53, amL, args0, Nat.reduceEqDiff, reduceCtorEq, ↓reduceIte, Nat.reduceAdd, resultsA, results1, Int.reduceNeg, splice, Nat.reduceLeDiff, part, fillA, fillE, Nat.reduceLT]
              · simp (maxDischargeDepth := 30) only [g54, amL, args0, Nat.reduceEqDiff, reduceCtorEq, ↓reduceIte, Nat.reduceAdd, resultsA, results1, Int.reduceNeg, splice, Nat.reduceLeDiff, part, fillA, fillE, Nat.reduceLT]
              · simp (maxDischargeDepth := 30) only [amL, args0, Nat.reduceEqDiff, reduceCtorEq, ↓reduceIte, Nat.reduceAdd, resultsA, results1, Int.reduceNeg, splice, Nat.reduceLeDiff, part, fillA, fillE, Nat.reduceLT]
              · intro x hx
                rw [b2 x (by rw [hkeep x hx]; exact hx)]; exact hkeep x hx
              · intro x hx hxb
                rw [List.take_succ_eq_append_getElem hj1, hj2] at hx
                rcases List.mem_append.1 hx with hx | hx
                · obtain ⟨c1, c2⟩ := hdone x hx hxb
                  rw [b2 x c1]; exact ⟨c1, c2⟩
                · rw [List.mem_singleton.1 hx] at hxb ⊢; exact b3 hxb
            · have hjj : j = (toN N p).length := by omega
              subst hjj
              rw [List.take_length] at hdone
              simp (maxDischargeDepth := 30) only [h2, g0, g7, g8, g9, g12, g13, g53, g54, g55, w1, amL, args0, Nat.reduceEqDiff, reduceCtorEq, ↓reduceIte, Nat.reduceAdd, resultsA, results1, Int.reduceNeg, splice, Nat.reduceLeDiff, part, fillA, fillE, Nat.reduceLT]
              have hp' : s'.todo[i]? = some p := by rw [hr, List.getElem?_append_left hil]; exact hp
              have hpm' := List.mem_of_getElem? hp'
              refine ⟨_, ?_, i + 1, s', tv', rfl, ?_, ?_, ?_, ?_, ?_, ?_, hW', hg', hBI'.weaken (fun x hx => ?_), fun x hx y hy => ?_, fun x hx hxb => ?_, fun j' x hj' hx q hq hqb => ?_⟩
              · omega
              · simp (maxDischargeDepth := 30) only [g0, amL, args0, Nat.reduceEqDiff, reduceCtorEq, ↓reduceIte, Nat.reduceAdd, resultsA, results1, Int.reduceNeg, splice, Nat.reduceLeDiff, part, fillA, fillE, Nat.reduceLT]
              · simp (maxDischargeDepth := 30) only [g7, amL, args0, Nat.reduceEqDiff, reduceCtorEq, ↓reduceIte, Nat.reduceAdd, resultsA, results1, Int.reduceNeg, splice, Nat.reduceLeDiff, part, fillA, fillE, Nat.reduceLT]
              · simp (maxDischargeDepth := 30) only [g8, amL, args0, Nat.reduceEqDiff, reduceCtorEq, ↓reduceIte, Nat.reduceAdd, resultsA, results1, Int.reduceNeg, splice, Nat.reduceLeDiff, part, fillA, fillE, Nat.reduceLT]
              · simp (maxDischargeDepth := 30) only [g9, amL, args0, Nat.reduceEqDiff, reduceCtorEq, ↓reduceIte, Nat.reduceAdd, resultsA, results1, Int.reduceNeg, splice, Nat.reduceLeDiff, part, fillA, fillE, Nat.reduceLT]
              · simp (maxDischargeDepth := 30) only [amL, args0, Nat.reduceEqDiff, reduceCtorEq, ↓reduceIte, Nat.reduceAdd, resultsA, results1, Int.reduceNeg, splice, Nat.reduceLeDiff, part, fillA, fillE, Nat.reduceLT]
              · rw [hr, List.length_append]; omega
              · have := hBI'.top x hx
                omega
              · have h1 := hBI'.top y hy
                have h2 : s'.far p ≤ s'.far x := by
                  have hsr := hBI'.srt
                  rw [List.pairwise_iff_getElem] at hsr
                  obtain ⟨z1, z2⟩ := List.getElem?_eq_some_iff.1 hp'
                  obtain ⟨z3, z4⟩ := List.getElem?_eq_some_iff.1 hx
                  have := hsr i (i + 1) z1 z3 (by omega)
                  rwa [z2, z4] at this
                rw [hkeep p hp0] at h2
                omega
              · rw [hkeep x (by rw [hs x hx hxb]; omega)]; exact hs x hx hxb
              · by_cases e : j' = i
                · rw [e, hp'] at hx
                  cases hx
                  rw [hkeep p hp0]
                  exact hdone q hq hqb
                · have hx0 : s.todo[j']? = some x := by rw [hr, List.getElem?_append_left (by omega)] at hx; exact hx
                  obtain ⟨c1, c2⟩ := hpr j' x (by omega) hx0 q hq hqb
                  have hx1 := (hBI.mem x).1 (List.mem_of_getElem? hx0)
                  rw [hkeep q c1, hkeep x hx1]
                  exact ⟨c1, c2⟩
          · refine ⟨0, s, tv, Nat.zero_le _, rfl, by simp (maxDischargeDepth := 30) only [f0, amL, args0, Nat.reduceEqDiff, reduceCtorEq, ↓reduceIte, Nat.reduceAdd, resultsA, results1, Int.reduceNeg, splice, Nat.reduceLeDiff, part, fillA, fillE, Nat.reduceLT], by simp (maxDischargeDepth := 30) only [f7, amL, args0, Nat.reduceEqDiff, reduceCtorEq, ↓reduceIte, Nat.reduceAdd, resultsA, results1, Int.reduceNeg, splice, Nat.reduceLeDiff, part, fillA, fillE, Nat.reduceLT], by simp (maxDischargeDepth := 30) only [f8, amL, args0, Nat.reduceEqDiff, reduceCtorEq, ↓reduceIte, Nat.reduceAdd, resultsA, results1, Int.reduceNeg, splice, Nat.reduceLeDiff, part, fillA, fillE, Nat.reduceLT], by simp (maxDischargeDepth := 30) only [f9, amL, args0, Nat.reduceEqDiff, reduceCtorEq, ↓reduceIte, Nat.reduceAdd, resultsA, results1, Int.reduceNeg, splice, Nat.reduceLeDiff, part, fillA, fillE, Nat.reduceLT], by simp (maxDischargeDepth := 30) only [f12, amL, args0, Nat.reduceEqDiff, reduceCtorEq, ↓reduceIte, Nat.reduceAdd, resultsA, results1, Int.reduceNeg, splice, Nat.reduceLeDiff, part, fillA, fillE, Nat.reduceLT], by simp (maxDischargeDepth := 30) only [amL, args0, Nat.reduceEqDiff, reduceCtorEq, ↓reduceIte, Nat.reduceAdd, resultsA, results1, Int.reduceNeg, splice, Nat.reduceLeDiff, part, fillA, fillE, Nat.reduceLT], by simp (maxDischargeDepth := 30) only [amL, args0, Nat.reduceEqDiff, reduceCtorEq, ↓reduceIte, Nat.reduceAdd, resultsA, results1, Int.reduceNeg, splice, Nat.reduceLeDiff, part, fillA, fillE, Nat.reduceLT], by simp (maxDischargeDepth := 30) only [amL, args0, Nat.reduceEqDiff, reduceCtorEq, ↓reduceIte, Nat.reduceAdd, resultsA, results1, Int.reduceNeg, splice, Nat.reduceLeDiff, part, fillA, fillE, Nat.reduceLT], by simp (maxDischargeDepth := 30) only [amL, args0, Nat.reduceEqDiff, reduceCtorEq, ↓reduceIte, Nat.reduceAdd, resultsA, results1, Int.reduceNeg, splice, Nat.reduceLeDiff, part, fillA, fillE, Nat.reduceLT]; rfl, hW, hg, htv, hBI.weaken (fun x hx => htop p hp x hx), fun _ _ => rfl, ⟨[], by simp⟩, fun q hq => by simp at hq⟩
        · have hii : i = s.todo.length := by omega
          subst hii
          have lf := fun k => load_at0 (k := k) (j := 0) hW.f
          have hex := hBI.exact hs (fun p hp => by
            obtain ⟨j, hj⟩ := List.getElem?_of_mem hp
            exact hpr j p (List.getElem?_eq_some_iff.1 hj).1 hj)
          simp (maxDischargeDepth := 30) only [h', f0, f7, f8, f9, f12, lf, amL, args0, Nat.reduceEqDiff, reduceCtorEq, ↓reduceIte, Nat.reduceAdd, resultsA, results1, Int.reduceNeg, splice, Nat.reduceLeDiff, part, fillA, fillE, Nat.reduceLT]
          exact ⟨hg, s.far, hW.slF, fun p hp => ⟨hBI.way p ((hBI.mem p).2 hp), (hBI.ok p ((hBI.mem p).2 hp)).1⟩, hex⟩
      · refine ⟨0, s, tv, by omega, by simp (maxDischargeDepth := 30) only [f0, amL, args0, Nat.reduceEqDiff, reduceCtorEq, ↓reduceIte, Nat.reduceAdd, resultsA, results1, Int.reduceNeg, splice, Nat.reduceLeDiff, part, fillA, fillE, Nat.reduceLT], by simp (maxDischargeDepth := 30) only [f7, amL, args0, Nat.reduceEqDiff, reduceCtorEq, ↓reduceIte, Nat.reduceAdd, resultsA, results1, Int.reduceNeg, splice, Nat.reduceLeDiff, part, fillA, fillE, Nat.reduceLT], by simp (maxDischargeDepth := 30) only [f8, amL, args0, Nat.reduceEqDiff, reduceCtorEq, ↓reduceIte, Nat.reduceAdd, resultsA, results1, Int.reduceNeg, splice, Nat.reduceLeDiff, part, fillA, fillE, Nat.reduceLT], by simp (maxDischargeDepth := 30) only [f9, amL, args0, Nat.reduceEqDiff, reduceCtorEq, ↓reduceIte, Nat.reduceAdd, resultsA, results1, Int.reduceNeg, splice, Nat.reduceLeDiff, part, fillA, fillE, Nat.reduceLT], by simp (maxDischargeDepth := 30) only [amL, args0, Nat.reduceEqDiff, reduceCtorEq, ↓reduceIte, Nat.reduceAdd, resultsA, results1, Int.reduceNeg, splice, Nat.reduceLeDiff, part, fillA, fillE, Nat.reduceLT]; rfl, Nat.zero_le _, hW, hg, hBI, fun x hx y hy => ?_, hs', fun j p hj => absurd hj (Nat.not_lt_zero _)⟩
        have h1 := hBI.top y hy
        have h2 := (hBI.mem x).1 (List.mem_of_getElem? hx)
        omega
  · exact ⟨0, ⟨fun _ => -1, []⟩, .nils, Nat.zero_le _, rfl, by simp (maxDischargeDepth := 30) only [amL, args0, Nat.reduceEqDiff, reduceCtorEq, ↓reduceIte, Nat.reduceAdd, resultsA, results1, Int.reduceNeg, splice, Nat.reduceLeDiff, part, fillA, fillE, Nat.reduceLT], by simp (maxDischargeDepth := 30) only [amL, args0, Nat.reduceEqDiff, reduceCtorEq, ↓reduceIte, Nat.reduceAdd, resultsA, results1, Int.reduceNeg, splice, Nat.reduceLeDiff, part, fillA, fillE, Nat.reduceLT], by simp (maxDischargeDepth := 30) only [amL, args0, Nat.reduceEqDiff, reduceCtorEq, ↓reduceIte, Nat.reduceAdd, resultsA, results1, Int.reduceNeg, splice, Nat.reduceLeDiff, part, fillA, fillE, Nat.reduceLT], by simp (maxDischargeDepth := 30) only [amL, args0, Nat.reduceEqDiff, reduceCtorEq, ↓reduceIte, Nat.reduceAdd, resultsA, results1, Int.reduceNeg, splice, Nat.reduceLeDiff, part, fillA, fillE, Nat.reduceLT]; rfl, by simp (maxDischargeDepth := 30) only [amL, args0, Nat.reduceEqDiff, reduceCtorEq, ↓reduceIte, Nat.reduceAdd, resultsA, results1, Int.reduceNeg, splice, Nat.reduceLeDiff, part, fillA, fillE, Nat.reduceLT], by simp (maxDischargeDepth := 30) only [amL, args0, Nat.reduceEqDiff, reduceCtorEq, ↓reduceIte, Nat.reduceAdd, resultsA, results1, Int.reduceNeg, splice, Nat.reduceLeDiff, part, fillA, fillE, Nat.reduceLT], by simp (maxDischargeDepth := 30) only [amL, args0, Nat.reduceEqDiff, reduceCtorEq, ↓reduceIte, Nat.reduceAdd, resultsA, results1, Int.reduceNeg, splice, Nat.reduceLeDiff, part, fillA, fillE, Nat.reduceLT]; rfl, hW, hgm4, hBI0, fun j p hj => absurd hj (Nat.not_lt_zero _)⟩
end Go.AM.G


set_option maxRecDepth 100000
namespace Go.AM.G
open Go Go.AM
def reachedL (far : Nat → Int) (n : Nat) : List Nat := (List.range n).filter fun p => decide (0 ≤ far p)
theorem reachedL_succ {far : Nat → Int} {n : Nat} : reachedL far (n + 1) = reachedL far n ++ (if 0 ≤ far n then [n] else []) := by
  unfold reachedL
  rw [List.range_succ, List.filter_append]
  congr 1
  by_cases h : 0 ≤ far n <;> simp [h]
theorem reachedL_len {far : Nat → Int} {n : Nat} : (reachedL far n).length ≤ n := by
  have := List.length_filter_le (fun p => decide (0 ≤ far p)) (List.range n)
  simpa [reachedL] using this
theorem mem_reachedL {far : Nat → Int} {n p : Nat} : p ∈ reachedL far n ↔ p < n ∧ 0 ≤ far p := by simp [reachedL]
theorem reached_spec {m : Mem} {v : V} {n : Nat} {far : Nat → Int} (hv : Sl m v 1 (intF n far)) (hn : n ≤ 4096) : C S n_graph_reached [v] m (fun r m' => Grow m m' ∧ Sl m' r 1 (nats (reachedL far n))) := by
  refine C_body rfl rfl rfl ?_
  unfold graph_reached
  simp (maxDischargeDepth := 30) only [hv.len, intF_len, amL, args0, Nat.reduceEqDiff, reduceCtorEq, ↓reduceIte, Nat.reduceAdd, resultsA, results1, Int.reduceNeg, splice, Nat.reduceLeDiff, part, fillA, fillE, Nat.reduceLT]
  let I := fun (k : Nat) (fr : Frame) (M : Mem) => ∃ i u, i ≤ n ∧ k = n - i ∧ fr 3 = u ∧ fr 6 = v ∧ fr 7 = .int .i64 n ∧ fr 8 = .int .i64 (i : Nat) ∧ GS m.length M u 1 (nats (reachedL far i)) ∧ Grow m M
  refine W_loop I ?_ n ?_
  · rintro k fr M ⟨i, u, hi, rfl, f3, f6, f7, f8, hgs, hg⟩
    unfold graph_reached_l0
    simp (maxDischargeDepth := 30) only [f3, f6, f7, f8, amL, args0, Nat.reduceEqDiff, reduceCtorEq, ↓reduceIte, Nat.reduceAdd, resultsA, results1, Int.reduceNeg, splice, Nat.reduceLeDiff, part, fillA, fillE, Nat.reduceLT]
    first | (refine O_split (by simp only [put_apply, Nat.reduceEqDiff, ↓reduceIte, reduceCtorEq]; rfl) (fun h => ?_) (fun h => ?_) <;> simp only [decide_eq_true_eq, decide_eq_false_iff_not, Decidable.not_not, Bool.and_eq_true, Bool.not_eq_true', Bool.not_eq_false'] at h) | (refine W_split (by simp only [get_t, put_apply, Nat.reduceEqDiff, ↓reduceIte, reduceCtorEq]; rfl) (fun h => ?_) (fun h => ?_) <;> simp only [decide_eq_true_eq, decide_eq_false_iff_not, Decidable.not_not, Bool.and_eq_true, Bool.not_eq_true', Bool.not_eq_false'] at h)
    · have hil : i < n := by omega
      have hvM := hv.grow hg
      have ix := hvM.index (ki := .i64) (n := i) (by omega) (by rw [intF_len]; omega)
      have ld := fun o k => hvM.load (o := o) (k := k) (intF_get hil)
      simp only [Int.toNat_natCast] at ix
      have w1 : IntKind.i64.wrap ((i : Int) + 1) = ((i + 1 : Nat) : Int) := by rw [wrap_i64] <;> omega
      have hs := reachedL_succ (far := far) (n := i)
      by_cases hf : 0 ≤ far i
      · rw [if_pos hf] at hs
        have hrl := reachedL_len (far := far) (n := i)
        have hml := hg.len
        obtain ⟨u', M', p1, p2, p3, p4, p5⟩ := (hgs.app (g := [Blk.cells true [[V.int .i64 (i : Int)]]])).push (T := M.length) (own := true) (x := [V.int .i64 (i : Int)]) (zero := [.int .i64 0]) (bytes := 8) rfl (by simp) (by simp [roomy]; omega) (by simp; omega)
        simp (maxDischargeDepth := 30) only [h, f3, f6, f7, f8, ix, ld, hf, amL, args0, Nat.reduceEqDiff, reduceCtorEq, ↓reduceIte, Nat.reduceAdd, resultsA, results1, Int.reduceNeg, splice, Nat.reduceLeDiff, part, fillA, fillE, Nat.reduceLT]
        refine ⟨_, _, p1, ?_⟩
        simp (maxDischargeDepth := 30) only [f6, f7, f8, w1, amL, args0, Nat.reduceEqDiff, reduceCtorEq, ↓reduceIte, Nat.reduceAdd, resultsA, results1, Int.reduceNeg, splice, Nat.reduceLeDiff, part, fillA, fillE, Nat.reduceLT]
        refine ⟨_, ?_, i + 1, u', by omega, rfl, ?_, ?_, ?_, ?_, ?_, Grow.keep' hg.app fun c y hc hy => p3 c y (fun e => by have := (hgs.blk e).1; omega) hy⟩
        · omega
        · simp (maxDischargeDepth := 30) only [amL, args0, Nat.reduceEqDiff, reduceCtorEq, ↓reduceIte, Nat.reduceAdd, resultsA, results1, Int.reduceNeg, splice, Nat.reduceLeDiff, part, fillA, fillE, Nat.reduceLT]
        · simp (maxDischargeDepth := 30) only [f6, amL, args0, Nat.reduceEqDiff, reduceCtorEq, ↓reduceIte, Nat.reduceAdd, resultsA, results1, Int.reduceNeg, splice, Nat.reduceLeDiff, part, fillA, fillE, Nat.reduceLT]
        · simp (maxDischargeDepth := 30) only [f7, amL, args0, Nat.reduceEqDiff, reduceCtorEq, ↓reduceIte, Nat.reduceAdd, resultsA, results1, Int.reduceNeg, splice, Nat.reduceLeDiff, part, fillA, fillE, Nat.reduceLT]
        · simp (maxDischargeDepth := 30) only [amL, args0, Nat.reduceEqDiff, reduceCtorEq, ↓reduceIte, Nat.reduceAdd, resultsA, results1, Int.reduceNeg, splice, Nat.reduceLeDiff, part, fillA, fillE, Nat.reduceLT]
        · rw [hs]
          have : nats (reachedL far i ++ [i]) = nats (reachedL far i) ++ [[V.int .i64 (i : Int)]] := by simp
          rw [this]; exact p2
      · rw [if_neg hf, List.append_nil] at hs
        simp (maxDischargeDepth := 30) only [h, f3, f6, f7, f8, ix, ld, hf, w1, amL, args0, Nat.reduceEqDiff, reduceCtorEq, ↓reduceIte, Nat.reduceAdd, resultsA, results1, Int.reduceNeg, splice, Nat.reduceLeDiff, part, fillA, fillE, Nat.reduceLT]
        refine ⟨_, ?_, i + 1, u, by omega, rfl, ?_, ?_, ?_, ?_, ?_, hg⟩
        · omega
        · simp (maxDischargeDepth := 30) only [f3, amL, args0, Nat.reduceEqDiff, reduceCtorEq, ↓reduceIte, Nat.reduceAdd, resultsA, results1, Int.reduceNeg, splice, Nat.reduceLeDiff, part, fillA, fillE, Nat.reduceLT]
        · simp (maxDischargeDepth := 30) only [f6, amL, args0, Nat.reduceEqDiff, reduceCtorEq, ↓reduceIte, Nat.reduceAdd, resultsA, results1, Int.reduceNeg, splice, Nat.reduceLeDiff, part, fillA, fillE, Nat.reduceLT]
        · simp (maxDischargeDepth := 30) only [f7, amL, args0, Nat.reduceEqDiff, reduceCtorEq, ↓reduceIte, Nat.reduceAdd, resultsA, results1, Int.reduceNeg, splice, Nat.reduceLeDiff, part, fillA, fillE, Nat.reduceLT]
        · simp (maxDischargeDepth := 30) only [amL, args0, Nat.reduceEqDiff, reduceCtorEq, ↓reduceIte, Nat.reduceAdd, resultsA, results1, Int.reduceNeg, splice, Nat.reduceLeDiff, part, fillA, fillE, Nat.reduceLT]
        · rw [hs]; exact hgs
    · have : i = n := by omega
      subst this
      simp (maxDischargeDepth := 30) only [h, f3, f6, f7, f8, amL, args0, Nat.reduceEqDiff, reduceCtorEq, ↓reduceIte, Nat.reduceAdd, resultsA, results1, Int.reduceNeg, splice, Nat.reduceLeDiff, part, fillA, fillE, Nat.reduceLT]
      exact ⟨hg, hgs.sl⟩
  · exact ⟨0, .nils, Nat.zero_le _, rfl, by simp (maxDischargeDepth := 30) only [amL, args0, Nat.reduceEqDiff, reduceCtorEq, ↓reduceIte, Nat.reduceAdd, resultsA, results1, Int.reduceNeg, splice, Nat.reduceLeDiff, part, fillA, fillE, Nat.reduceLT], by simp (maxDischargeDepth := 30) only [amL, args0, Nat.reduceEqDiff, reduceCtorEq, ↓reduceIte, Nat.reduceAdd, resultsA, results1, Int.reduceNeg, splice, Nat.reduceLeDiff, part, fillA, fillE, Nat.reduceLT], by simp (maxDischargeDepth := 30) only [amL, args0, Nat.reduceEqDiff, reduceCtorEq, ↓reduceIte, Nat.reduceAdd, resultsA, results1, Int.reduceNeg, splice, Nat.reduceLeDiff, part, fillA, fillE, Nat.reduceLT], by simp (maxDischargeDepth := 30) only [amL, args0, Nat.reduceEqDiff, reduceCtorEq, ↓reduceIte, Nat.reduceAdd, resultsA, results1, Int.reduceNeg, splice, Nat.reduceLeDiff, part, fillA, fillE, Nat.reduceLT]; rfl, .inl ⟨rfl, rfl⟩, Grow.refl _⟩
theorem pth_rch {to : Nat → List Nat} {src : List Nat} {p : Nat} : (∃ k, Pth to src (-1) k p) ↔ ∃ r, r ∈ src ∧ Rch to r p := by
  constructor
  · rintro ⟨k, h⟩
    induction h with
    | start h1 _ => exact ⟨_, h1, .refl _⟩
    | step _ h2 _ ih =>
      obtain ⟨r, h3, h4⟩ := ih
      exact ⟨r, h3, .step h4 h2⟩
  · rintro ⟨r, h1, h⟩
    induction h with
    | refl => exact ⟨0, .start h1 (by omega)⟩
    | step _ h2 ih =>
      obtain ⟨k, h3⟩ := ih
      exact ⟨k + 1, .step h3 h2 (by omega)⟩
def rootsN (R : List Int) : List Nat := R.map Int.toNat
/-- is a node reached? -/
def Live (N : List NodeA) (R : List Int) (p : Nat) : Prop := ∃ r, r ∈ rootsN R ∧ Rch (toN N) r p
theorem Reached_spec {m : Mem} {nv rv : V} {N : List NodeA} {R : List Int} (hG : Gr m nv rv N R) (hf : Fits N R) : C S n_graph_Reached [.agg [nv, rv]] m (fun r m' => Grow m m' ∧ ((validG N R = false ∧ r = .tup [.nils, .int .i64 2]) ∨ (validG N R = true ∧ ∃ v l, r = .tup [v, .int .i64 0] ∧ Sl m' v 1 (nats l) ∧ l.Pairwise (· < ·) ∧ l.length ≤ N.length ∧ ∀ p, p ∈ l ↔ p < N.length ∧ Live N R p))) := by
  refine C_body rfl rfl rfl ?_
  unfold graph_Reached
  obtain ⟨hc1, hc2⟩ := hG.cells
  simp (maxDischargeDepth := 30) only [hc1, hc2, amL, args0, Nat.reduceEqDiff, reduceCtorEq, ↓reduceIte, Nat.reduceAdd, resultsA, results1, Int.reduceNeg, splice, Nat.reduceLeDiff, part, fillA, fillE, Nat.reduceLT]
  refine (Check_spec (hG.grow (Grow.refl _).app) hf).mono ?_
  rintro _ M1 ⟨rfl, hg1⟩
  have hgm1 : Grow m M1 := (Grow.refl m).app.trans hg1
  have hT1 : M1[m.length]? = some (.cells true [[nv, rv]]) := hg1.get (by simp)
  cases hval : validG N R with
  | false =>
    have c2 : ¬ (2 : Int) = 0 := by decide
    simp (maxDischargeDepth := 30) only [aft_mk, c2, Bool.false_eq_true, amL, args0, Nat.reduceEqDiff, reduceCtorEq, ↓reduceIte, Nat.reduceAdd, resultsA, results1, Int.reduceNeg, splice, Nat.reduceLeDiff, part, fillA, fillE, Nat.reduceLT]
    exact ⟨hgm1, .inl trivial⟩
  | true =>
    obtain ⟨hn, hto, hlt, hR, hRl, _⟩ := valid_to hval
    have c00 : ¬ ¬ (0 : Int) = 0 := by omega
    have ldT1 := fun j k => load_at0 (k := k) (j := j) hT1
    have lN : ∀ j k, loadV (M1 ++ [Blk.cells true [[nv, rv]]]) k (.ptr M1.length 0 j) = part [nv, rv] j k := fun j k => load_at0 (own := true) (by simp)
    simp (maxDischargeDepth := 30) only [aft_mk, c00, ldT1, hc1, hc2, lN, amL, args0, Nat.reduceEqDiff, reduceCtorEq, ↓reduceIte, Nat.reduceAdd, resultsA, results1, Int.reduceNeg, splice, Nat.reduceLeDiff, part, fillA, fillE, Nat.reduceLT]
    have hG2 := hG.grow (hgm1.app (g := [Blk.cells true [[nv, rv]]]))
    have hrs : Sl (M1 ++ [Blk.cells true [[nv, rv]]]) rv 1 (nats (rootsN R)) := by
      have h1 := hG2.1
      rw [hR] at h1
      rw [nats_ints]; exact h1
    refine (walk_spec (but := -1) (own := true) hG2 hf hval (by simp) hrs hRl (by have := hf.2.1; simpa [rootsN] using this)).mono ?_
    rintro v M2 ⟨hg2, far, hfar, hw1, hw2⟩
    simp (maxDischargeDepth := 30) only [aft_mk, amL, args0, Nat.reduceEqDiff, reduceCtorEq, ↓reduceIte, Nat.reduceAdd, resultsA, results1, Int.reduceNeg, splice, Nat.reduceLeDiff, part, fillA, fillE, Nat.reduceLT]
    refine (reached_spec hfar hn).mono ?_
    rintro v2 M3 ⟨hg3, hr⟩
    simp (maxDischargeDepth := 30) only [aft_mk, amL, args0, Nat.reduceEqDiff, reduceCtorEq, ↓reduceIte, Nat.reduceAdd, resultsA, results1, Int.reduceNeg, splice, Nat.reduceLeDiff, part, fillA, fillE, Nat.reduceLT]
    refine ⟨(hgm1.app.trans hg2).trans hg3, .inr ⟨v2, reachedL far N.length, rfl, hr, ?_, reachedL_len, fun p => ?_⟩⟩
    · exact List.Pairwise.filter _ List.pairwise_lt_range
    · rw [mem_reachedL]
      unfold Live
      rw [← pth_rch]
      refine and_congr_right fun hp => ⟨fun h => ⟨_, (hw1 p h).1⟩, fun ⟨k, hk⟩ => (hw2 k p hk).1⟩
end Go.AM.G


set_option maxRecDepth 100000
namespace Go.AM.G
open Go Go.AM
def toA (x : NodeB) : NodeA := ⟨x.addr, x.words, ints' x.to⟩
theorem GrB.gr {m : Mem} {nv rv : V} {N : List NodeB} {R : List Nat} (h : GrB m nv rv N R) : Gr m nv rv (N.map toA) (ints' R) := by
  obtain ⟨h1, els, h2, h3, h4⟩ := h
  refine ⟨nats_ints ▸ h1, els, h2, by simp [h3], fun i nd hi => ?_⟩
  rw [List.getElem?_map, Option.map_eq_some_iff] at hi
  obtain ⟨x, hx, rfl⟩ := hi
  obtain ⟨tv, a, b⟩ := h4 i x hx
  exact ⟨tv, a, .inl (nats_ints ▸ b)⟩
theorem risesB_of {n : Nat} : ∀ {l : List Nat} {last : Int}, l.Pairwise (· < ·) → (∀ x, x ∈ l → x < n) → (∀ x : Nat, x ∈ l → last < (x : Int)) → risesB n last (ints' l) = true
  | [], _, _, _, _ => rfl
  | a :: l, last, h, h1, h2 => by
    rw [List.pairwise_cons] at h
    have ih := risesB_of (l := l) (last := (a : Int)) h.2 (fun x hx => h1 x (List.mem_cons_of_mem _ hx)) (fun x hx => by have := h.1 x hx; omega)
    have e1 := h1 a (by simp)
    have e2 := h2 a (by simp)
    show (decide (last < (a : Int) ∧ (a : Int) < (n : Int)) && risesB n (a : Int) (ints' l)) = true
    rw [ih, Bool.and_true, decide_eq_true_eq]
    omega
theorem nodesB_of {n : Nat} {f : Nat → NodeB} : ∀ {cs : List Nat} {last : Int}, cs.Pairwise (· < ·) → (∀ x : Nat, x ∈ cs → last < (x : Int)) → (∀ x, x ∈ cs → (f x).addr = x ∧ 1 ≤ (f x).words ∧ (f x).words ≤ 49 ∧ risesB n (-1) (ints' (f x).to) = true) → nodesB n last ((cs.map f).map toA) = true
  | [], _, _, _, _ => rfl
  | a :: l, last, h, h1, h2 => by
    rw [List.pairwise_cons] at h
    have ih := nodesB_of (n := n) (f := f) (cs := l) (last := (a : Int)) h.2 (fun x hx => by have := h.1 x hx; omega) (fun x hx => h2 x (List.mem_cons_of_mem _ hx))
    obtain ⟨e1, e2, e3, e4⟩ := h2 a (by simp)
    have e5 := h1 a (by simp)
    show (decide (last < ((f a).addr : Int)) && (decide (1 ≤ ((f a).words : Int) ∧ ((f a).words : Int) ≤ 49) && (risesB n (-1) (ints' (f a).to) && nodesB n ((f a).addr : Int) ((l.map f).map toA)))) = true
    rw [e1, e4, ih, Bool.true_and, Bool.and_true, Bool.and_eq_true, decide_eq_true_eq, decide_eq_true_eq]
    omega
theorem plc_in {l : List Nat} {a : Nat} (h : l.Pairwise (· < ·)) (ha : a ∈ l) : plc l a < l.length ∧ nx l (plc l a) = a := by
  obtain ⟨i, hi, rfl⟩ := nx_of ha
  rw [plc_of h hi]; exact ⟨hi, rfl⟩
theorem mem_refsTo {a : Nat → Nat} {cs : List Nat} {x y : Nat} : ∀ {f : Nat}, y ∈ refsTo a cs x f ↔ ∃ g, g < f ∧ (unM (a x)).testBit g = true ∧ a (x + 1 + g) ≠ 0 ∧ y = plc cs (a (x + 1 + g))
  | 0 => by simp [refsTo]
  | f + 1 => by
    have ih := @mem_refsTo a cs x y f
    unfold refsTo
    split
    · rename_i h
      rw [List.mem_append, List.mem_singleton, ih]
      constructor
      · rintro (⟨g, hg, h2⟩ | rfl)
        · exact ⟨g, by omega, h2⟩
        · exact ⟨f, by omega, h.1, h.2, rfl⟩
      · rintro ⟨g, hg, h2, h3, h4⟩
        by_cases e : g = f
        · subst e; exact .inr h4
        · exact .inl ⟨g, by omega, h2, h3, h4⟩
    · rename_i h
      rw [ih]
      constructor
      · rintro ⟨g, hg, h2⟩
        exact ⟨g, by omega, h2⟩
      · rintro ⟨g, hg, h2, h3, h4⟩
        by_cases e : g = f
        · subst e; exact absurd ⟨h2, h3⟩ h
        · exact ⟨g, by omega, h2, h3, h4⟩
theorem mem_rootsTo {cs rs : List Nat} {y : Nat} : ∀ {k : Nat}, y ∈ rootsTo cs rs k ↔ ∃ i, i < k ∧ nx rs i ≠ 0 ∧ y = plc cs (nx rs i)
  | 0 => by simp [rootsTo]
  | k + 1 => by
    have ih := @mem_rootsTo cs rs y k
    unfold rootsTo
    split
    · rename_i h
      rw [List.mem_append, List.mem_singleton, ih]
      constructor
      · rintro (⟨g, hg, h2⟩ | rfl)
        · exact ⟨g, by omega, h2⟩
        · exact ⟨k, by omega, h, rfl⟩
      · rintro ⟨g, hg, h2, h3⟩
        by_cases e : g = k
        · subst e; exact .inr h3
        · exact .inl ⟨g, by omega, h2, h3⟩
    · rename_i h
      rw [ih]
      constructor
      · rintro ⟨g, hg, h2⟩
        exact ⟨g, by omega, h2⟩
      · rintro ⟨g, hg, h2, h3⟩
        by_cases e : g = k
        · subst e; exact absurd h2 h
        · exact ⟨g, by omega, h2, h3⟩
section
variable {a : Nat → Nat} {cs rs : List Nat}
/-- what is known of current objects. -/
def Cur (a : Nat → Nat) (cs : List Nat) : Prop := ∀ x, x ∈ cs → x ≠ 0 ∧ a x % 256 ≤ 48 ∧ ∀ f, f < a x % 256 → (unM (a x)).testBit f = true → a (x + 1 + f) ≠ 0 → a (x + 1 + f) ∈ cs
theorem graph_valid (hcs : cs.Pairwise (· < ·)) (hcl : cs.length ≤ 4096) (hcur : Cur a cs) (hrt : rootsOk cs rs rs.length) : validG ((cs.map (ndOf a cs)).map toA) (ints' (setN (rootsTo cs rs rs.length))) = true := by
  have hn : ((cs.map (ndOf a cs)).map toA).length = cs.length := by simp
  unfold validG
  rw [hn, Bool.and_eq_true, Bool.and_eq_true, decide_eq_true_eq]
  refine ⟨hcl, risesB_of setN_sorted (fun x hx => ?_) (fun x hx => by omega), nodesB_of hcs (fun x hx => by have := (hcur x hx).1; omega) fun x hx => ?_⟩
  · obtain ⟨i, hi, hne, rfl⟩ := mem_rootsTo.1 (mem_setN.1 hx)
    exact (plc_in hcs (hrt i hi hne)).1
  · obtain ⟨h1, h2, h3⟩ := hcur x hx
    refine ⟨rfl, by show 1 ≤ a x % 256 + 1; omega, by show a x % 256 + 1 ≤ 49; omega, risesB_of setN_sorted (fun y hy => ?_) (fun y hy => by omega)⟩
    obtain ⟨g, hg, h4, h5, rfl⟩ := mem_refsTo.1 (mem_setN.1 hy)
    exact (plc_in hcs (h3 g hg h4 h5)).1
theorem mem_toN {x q : Nat} (hcs : cs.Pairwise (· < ·)) (hx : x ∈ cs) : q ∈ toN ((cs.map (ndOf a cs)).map toA) (plc cs x) ↔ ∃ b, fldTo a x b ∧ b ≠ 0 ∧ q = plc cs b := by
  obtain ⟨h1, h2⟩ := plc_in hcs hx
  have e : toN ((cs.map (ndOf a cs)).map toA) (plc cs x) = setN (refsTo a cs x (a x % 256)) := by
    unfold toN
    rw [List.getElem?_map, List.getElem?_map, nx_get h1, h2]
    show ((ints' (setN (refsTo a cs x (a x % 256)))).map Int.toNat) = _
    rw [List.map_map]
    conv => rhs; rw [← List.map_id (setN _)]
    exact List.map_congr_left fun y _ => by simp
  rw [e, mem_setN, mem_refsTo]
  constructor
  · rintro ⟨g, h3, h4, h5, rfl⟩
    exact ⟨_, ⟨g, h3, h4, rfl⟩, h5, rfl⟩
  · rintro ⟨b, ⟨g, h3, h4, rfl⟩, h5, rfl⟩
    exact ⟨g, h3, h4, h5, rfl⟩
theorem live_is (hcs : cs.Pairwise (· < ·)) (hcur : Cur a cs) (hrt : rootsOk cs rs rs.length) {x : Nat} : Rcb rs (nxtM a [] []) x ↔ ∃ p, p < cs.length ∧ nx cs p = x ∧ Live ((cs.map (ndOf a cs)).map toA) (ints' (setN (rootsTo cs rs rs.length))) p := by
  have hroot : ∀ r, r ∈ rootsN (ints' (setN (rootsTo cs rs rs.length))) ↔ ∃ i, i < rs.length ∧ nx rs i ≠ 0 ∧ r = plc cs (nx rs i) := by
    intro r
    rw [← mem_rootsTo]
    unfold rootsN
    rw [List.map_map, List.mem_map]
    constructor
    · rintro ⟨y, hy, rfl⟩
      have e : (Int.toNat ∘ fun p : Nat => (p : Int)) y = y := Int.toNat_natCast y
      rw [e]
      exact mem_setN.1 hy
    · exact fun h => ⟨r, mem_setN.2 h, Int.toNat_natCast r⟩
  constructor
  · intro h
    have : x ∈ cs ∧ Live ((cs.map (ndOf a cs)).map toA) (ints' (setN (rootsTo cs rs rs.length))) (plc cs x) := by
      induction h with
      | root hr hne =>
        obtain ⟨i, hi, rfl⟩ := nx_of hr
        exact ⟨hrt i hi hne, _, (hroot _).2 ⟨i, hi, hne, rfl⟩, .refl _⟩
      | @step y b _ hs hne ih =>
        obtain ⟨ih1, r, ih2, ih3⟩ := ih
        rcases hs with hs | ⟨i, hi, _⟩
        · obtain ⟨f, h1, h2, h3⟩ := hs
          exact ⟨h3 ▸ (hcur _ ih1).2.2 f h1 h2 (h3.symm ▸ hne), r, ih2, .step ih3 ((mem_toN hcs ih1).2 ⟨b, ⟨f, h1, h2, h3⟩, hne, rfl⟩)⟩
        · exact absurd hi (Nat.not_lt_zero _)
    obtain ⟨h1, h2⟩ := plc_in hcs this.1
    exact ⟨plc cs x, h1, h2, this.2⟩
  · rintro ⟨p, hp, rfl, r, h1, h2⟩
    have : ∀ q, Rch (toN ((cs.map (ndOf a cs)).map toA)) r q → ∃ y, y ∈ cs ∧ q = plc cs y ∧ Rcb rs (nxtM a [] []) y := by
      intro q hq
      induction hq with
      | refl =>
        obtain ⟨i, hi, hne, e⟩ := (hroot _).1 h1
        exact ⟨nx rs i, hrt i hi hne, e, .root (nx_mem hi) hne⟩
      | step _ hm ih =>
        obtain ⟨y, hy, rfl, hr⟩ := ih
        obtain ⟨b, hb, hne, rfl⟩ := (mem_toN hcs hy).1 hm
        obtain ⟨f, h3, h4, h5⟩ := hb
        exact ⟨b, h5 ▸ (hcur _ hy).2.2 f h3 h4 (h5.symm ▸ hne), rfl, .step hr (.inl ⟨f, h3, h4, h5⟩) hne⟩
    obtain ⟨y, hy, e, hr⟩ := this p h2
    rw [e, (plc_in hcs hy).2]
    exact hr
theorem reach_same (hcs : cs.Pairwise (· < ·)) (hcur : Cur a cs) (hrt : rootsOk cs rs rs.length) {l L : List Nat} (hl : l.Pairwise (· < ·)) (hm : ∀ p, p ∈ l ↔ p < ((cs.map (ndOf a cs)).map toA).length ∧ Live ((cs.map (ndOf a cs)).map toA) (ints' (setN (rootsTo cs rs rs.length))) p) (hL : L.Pairwise (· < ·)) (hLm : ∀ x, x ∈ L ↔ Rcb rs (nxtM a [] []) x) : l.map (nx cs) = L := by
  have hn : ((cs.map (ndOf a cs)).map toA).length = cs.length := by simp
  rw [hn] at hm
  refine rise_ext ?_ hL fun x => ?_
  · rw [List.pairwise_map]
    exact hl.imp_of_mem fun {p q} _ hq hpq => nx_rise hcs hpq ((hm q).1 hq).1
  · rw [hLm, live_is hcs hcur hrt, List.mem_map]
    constructor
    · rintro ⟨p, hp, rfl⟩
      exact ⟨p, ((hm p).1 hp).1, rfl, ((hm p).1 hp).2⟩
    · rintro ⟨p, hp, rfl, hlive⟩
      exact ⟨p, (hm p).2 ⟨hp, hlive⟩, rfl⟩
end
end Go.AM.G
