/- holders, whole. -/
import Derived.Test.YtnpefpiggklimaaGraphN
set_option linter.unusedVariables false
set_option linter.unusedSimpArgs false

set_option maxRecDepth 100000
namespace Go.AM.G
open Go Go.AM
theorem sorted_len : ∀ {l : List Nat} {n : Nat}, l.Pairwise (· < ·) → (∀ x, x ∈ l → x < n) → l.length ≤ n := fun {l n} h1 h2 => nodup_le n l (h1.imp (fun h => Nat.ne_of_lt h)) h2
theorem validG_roots {N : List NodeA} {R : List Int} (h : validG N R = true) : (rootsN R).Pairwise (· < ·) := by
  simp only [validG, Bool.and_eq_true, decide_eq_true_eq] at h
  obtain ⟨h1, h2, h3⟩ := h
  have hR := rises_ok _ _ _ (by omega) h2
  unfold rootsN
  rw [List.pairwise_map]
  refine hR.2.imp_of_mem fun {a b} ha hb hab => ?_
  have := hR.1 a ha
  have := hR.1 b hb
  omega
theorem pth_rch' {to : Nat → List Nat} {src : List Nat} {d : Int} {j p : Nat} (h : Pth to src d j p) : ∃ r, r ∈ src ∧ Rch to r p := by
  induction h with
  | start hs _ => exact ⟨_, hs, .refl _⟩
  | step _ hq _ ih =>
    obtain ⟨r, h1, h2⟩ := ih
    exact ⟨r, h1, .step h2 hq⟩
/-- reached without one. -/
theorem av_pth {to : Nat → List Nat} {src : List Nat} {h : HC} {d : Nat} (hL : ∀ x, x ∈ h.L ↔ ∃ r, r ∈ src ∧ Rch to r x) (hlt : ∀ x, x ∈ h.L → x < h.k) (hf : ∀ p, p ∈ h.L → ∀ q, q ∈ h.from' p ↔ (q ∈ h.L ∧ p ∈ to q) ∨ (q = h.k ∧ p ∈ src)) (hd : d < h.k) {p : Nat} (hp : p ∈ h.L) : Av h d p ↔ ∃ j, Pth to src d j p := by
  constructor
  · intro hv
    have : ∀ x, Av h d x → x ∈ h.L → ∃ j, Pth to src d j x := by
      intro x hx
      induction hx with
      | start _ => intro hk; have := hlt _ hk; omega
      | @step q p _ hq hpd ih =>
        intro hp
        rcases (hf p hp q).1 hq with ⟨h1, h2⟩ | ⟨_, h2⟩
        · obtain ⟨j, hj⟩ := ih h1
          exact ⟨j + 1, .step hj h2 (by omega)⟩
        · exact ⟨0, .start h2 (by omega)⟩
    exact this p hv hp
  · rintro ⟨j, hj⟩
    clear hp
    induction hj with
    | @start p hs hne => exact .step (.start (by omega)) ((hf p ((hL p).2 ⟨p, hs, .refl p⟩) h.k).2 (.inr ⟨rfl, hs⟩)) (by omega)
    | @step j p q hpp hq hne ih =>
      have hpL := (hL p).2 (pth_rch' hpp)
      have hqL := (hL q).2 (pth_rch' (Pth.step hpp hq hne))
      exact .step ih ((hf q hqL p).2 (.inl ⟨hpL, hq⟩)) (by omega)
theorem holders_spec {m : Mem} {Nb : Nat} {own : Bool} {nv rv : V} {N : List NodeA} {R : List Int} (hG : Gr m nv rv N R) (hf : Fits N R) (hval : validG N R = true) (hN : m[Nb]? = some (.cells own [[nv, rv]])) :
    C S n_graph_net_holders [.ptr Nb 0 0] m (fun r m' => Grow m m' ∧ ∃ hr, Sl m' r 1 (intF N.length hr) ∧ HoldRes N R hr) := by
  obtain ⟨hn, hto, hlt, hR, hRl, hsrt⟩ := valid_to hval
  obtain ⟨_, els0, hne0, hel0, _⟩ := id hG
  have hrs : Sl m rv 1 (nats (rootsN R)) := by
    have h1 := hG.1
    rw [hR] at h1
    rw [nats_ints]; exact h1
  have hrl : (nats (rootsN R)).length = (rootsN R).length := by simp
  have hrlen : (rootsN R).length < 2 ^ 60 := by have := hf.2.1; simpa [rootsN] using this
  have hRl : ∀ q, q ∈ rootsN R → q < N.length := hRl
  have hrsort : (rootsN R).length ≤ N.length := by
    refine sorted_len ?_ hRl
    have h1 := (validG_roots hval)
    exact h1
  generalize hnn : N.length = n at *
  refine C_body rfl rfl rfl ?_
  unfold graph_net_holders
  have ldN := fun j k => load_at0 (k := k) (j := j) hN
  simp (maxDischargeDepth := 30) only [ldN, hne0.len, hel0, amL, args0, Nat.reduceEqDiff, reduceCtorEq, ↓reduceIte, Nat.reduceAdd, resultsA, results1, Int.reduceNeg, splice, Nat.reduceLeDiff, part, fillA, fillE, Nat.reduceLT]
  refine (order_spec hG hf hval hN).mono ?_
  rintro ov M1 ⟨hg1, L, hovg, hord⟩
  have hGm1 := hG.grow hg1
  have hord' : OrdL (toN N) (rootsN R) n L := by rw [← hnn]; exact hnn ▸ hord
  have hLl : L.length ≤ n := nodup_le n L hord'.nd hord'.bnd
  have hov1 : Sl M1 ov 1 (nats L) := hovg.sl
  have w1 : IntKind.i64.wrap ((n : Int) + 1) = ((n + 1 : Nat) : Int) := by rw [wrap_i64] <;> omega
  simp (maxDischargeDepth := 30) only [aft_mk, w1, amL, args0, Nat.reduceEqDiff, reduceCtorEq, ↓reduceIte, Nat.reduceAdd, resultsA, results1, Int.reduceNeg, splice, Nat.reduceLeDiff, part, fillA, fillE, Nat.reduceLT]
  refine (Repeat_spec (own := true) (-2) (n + 1) (by exact List.getElem?_concat_length) (by omega)).mono ?_
  rintro v M2 ⟨hg2, br, capr, exr, hbr, rfl, hd2, hcapr⟩
  have hrl2 : (List.replicate (n + 1) (-2 : Int)).length = n + 1 := by simp
  rw [hrl2] at hcapr
  rw [intF_rep] at hd2
  have hg12 : Grow M1 M2 := (Grow.refl M1).app.trans hg2
  have hbr1 : M1.length ≤ br := by simp at hbr; omega
  have hbrl := (List.getElem?_eq_some_iff.1 hd2).1
  simp (maxDischargeDepth := 30) only [aft_mk, hrl2, amL, args0, Nat.reduceEqDiff, reduceCtorEq, ↓reduceIte, Nat.reduceAdd, resultsA, results1, Int.reduceNeg, splice, Nat.reduceLeDiff, part, fillA, fillE, Nat.reduceLT]
  generalize hM3 : M2 ++ [Blk.cells true [[V.slice br 0 (n + 1) capr exr 1]]] = M3
  have hg13 : Grow M1 M3 := by rw [← hM3]; exact hg12.app
  have hd3 : M3[br]? = some (.cells true (intF (n + 1) fun _ => -2)) := by rw [← hM3]; exact getElem?_grow hd2
  have hp3 : M3[M2.length]? = some (.cells true [[V.slice br 0 (n + 1) capr exr 1]]) := by rw [← hM3]; simp
  have hl3 : M3.length = M2.length + 1 := by rw [← hM3]; simp
  generalize hPr : M2.length = Pr at *
  have lR3 := fun k => load_at0 (k := k) (j := 0) hp3
  have slR3 : Sl M3 (.slice br 0 (n + 1) capr exr 1) 1 (intF (n + 1) fun _ => -2) := by have := Sl.mk (cap := capr) (ex := exr) (z := 1) hd3; rwa [intF_len] at this
  have ixR3 := slR3.index (ki := .i64) (n := n) (by omega) (by rw [intF_len]; omega)
  have stR3 := store_own (n := 1) (len := n + 1) (cap := capr) (z := 1) (ex := exr) (x := .int .i64 (-1)) hd3 (intF_get (show n < n + 1 by omega)) rfl rfl rfl
  simp only [Int.toNat_natCast] at ixR3
  simp only [V.cells, intF_set] at stR3
  have rm : 0 ≤ (n : Int) ∧ (n : Int) ≤ n ∧ roomy (n : Int).toNat 24 = true := by simp [roomy]; omega
  have rm' : roomy n 24 = true := by simpa using rm.2.2
  have rm0 : 0 ≤ (n : Int) ∧ (n : Int) ≤ n := ⟨rm.1, rm.2.1⟩
  have hovl := hov1.len
  have hnl : (nats L).length = L.length := by simp
  rw [hnl] at hovl
  have r0 : List.replicate 0 Blk.dead = [] := rfl
  simp (maxDischargeDepth := 30) only [lR3, ixR3, stR3, r0, List.append_nil, rm, rm', rm0, hovl, amL, args0, Nat.reduceEqDiff, reduceCtorEq, ↓reduceIte, Nat.reduceAdd, resultsA, results1, Int.reduceNeg, splice, Nat.reduceLeDiff, part, fillA, fillE, Nat.reduceLT]
  rw [vF_nils]
  have hsl3 : (M3.set br (Blk.cells true (intF (n + 1) (upd (fun _ => -2) n (-1))))).length = Pr + 1 := by simp [hl3]
  rw [hsl3]
  have hPM0 : PM M1 br Pr (Pr + 1) capr exr n (M3.set br (Blk.cells true (intF (n + 1) (upd (fun _ => -2) n (-1)))) ++ [Blk.cells true (vF n fun _ => V.nils)]) (upd (fun _ => -2) n (-1)) (fun _ => .nils) (fun _ => []) :=
    ⟨(hg13.set hbr1 _).app, hbr1, by omega, by omega, getElem?_grow (set_self' hd3), getElem?_grow (set_get (by omega) hp3), ⟨by rw [List.getElem?_append_right (by omega), hsl3]; simp, by omega, by simp; omega, fun p hp => .inl ⟨rfl, rfl⟩, fun p q hp hq hne x hx => by cases hx⟩⟩
  generalize hM5 : M3.set br (Blk.cells true (intF (n + 1) (upd (fun _ => -2) n (-1)))) ++ [Blk.cells true (vF n fun _ => V.nils)] = M5 at *
  let F := Pr + 1
  have htoln : ∀ p, (toN N p).length ≤ n := fun p => sorted_len (hsrt p) (fun x hx => hlt p x hx)
  let I0 := fun (k : Nat) (fr : Frame) (M : Mem) => ∃ (i : Nat) (rkI : Nat → Int) (tv : Nat → V) (ls : Nat → List Nat), i ≤ L.length ∧ k = L.length - i ∧ fr 0 = .ptr Nb 0 0 ∧ fr 3 = .int .i64 (n : Nat) ∧ fr 4 = ov ∧ fr 5 = .ptr Pr 0 0 ∧ fr 6 = .slice (Pr + 1) 0 n n true 1 ∧ fr 39 = ov ∧ fr 40 = .int .i64 L.length ∧ fr 41 = .int .i64 (i : Nat) ∧ PM M1 br Pr (Pr + 1) capr exr n M rkI tv ls ∧ rkI n = -1 ∧ (∀ (j p : Nat), j < i → L[j]? = some p → rkI p = j) ∧ Gath (toN N) (L.take i) ls n 0 0 [] ∧ ∀ q, q < n → (ls q).length ≤ i * 5000
  refine W_loop I0 ?_ L.length ?_
  · rintro k fr M ⟨i, rkI, tv, ls, hi, rfl, f0, f3, f4, f5, f6, f39, f40, f41, hPM, hrn, hrk, hga, hlen⟩
    unfold graph_net_holders_l0
    simp (maxDischargeDepth := 30) only [f0, f3, f4, f5, f6, f39, f40, f41, amL, args0, Nat.reduceEqDiff, reduceCtorEq, ↓reduceIte, Nat.reduceAdd, resultsA, results1, Int.reduceNeg, splice, Nat.reduceLeDiff, part, fillA, fillE, Nat.reduceLT]
    by_cases hil : i < L.length
    · have hil' : (i : Int) < L.length := by omega
      obtain ⟨p, hp⟩ : ∃ p, L[i]? = some p := ⟨_, List.getElem?_eq_getElem hil⟩
      have hpm := List.mem_of_getElem? hp
      have hpn := hord'.bnd p hpm
      have hovM := hov1.grow hPM.gr
      have ixo := hovM.index (ki := .i64) (n := i) (by omega) (by rw [hnl]; omega)
      have ldo := fun o k => hovM.load (o := o) (k := k) (nats_get hp)
      have lR := fun k => load_at0 (k := k) (j := 0) hPM.pr
      have ixR := hPM.slR.index (ki := .i64) (n := p) (by omega) (by rw [intF_len]; omega)
      have stR := store_own (n := 1) (len := n + 1) (cap := capr) (z := 1) (ex := exr) (x := .int .i64 (i : Int)) hPM.r (intF_get (show p < n + 1 by omega)) rfl rfl rfl
      simp only [Int.toNat_natCast] at ixo ixR
      simp only [V.cells, intF_set] at stR
      have hPM1 := hPM.setR (f := upd rkI p (i : Int))
      have wi : IntKind.i64.wrap ((i : Int) + 1) = ((i + 1 : Nat) : Int) := by rw [wrap_i64] <;> omega
      generalize hMM : M.set br (.cells true (intF (n + 1) (upd rkI p (i : Int)))) = M6 at *
      have ldN := fun j k => load_at0 (k := k) (j := j) ((hg1.trans hPM1.gr).get hN)
      obtain ⟨nd, hnd⟩ : ∃ nd, N[p]? = some nd := ⟨_, List.getElem?_eq_getElem (by omega)⟩
      obtain ⟨_, els, hne, hel, hnds⟩ := hGm1.grow hPM1.gr
      obtain ⟨tov, hte, htv⟩ := hnds p nd hnd
      rw [hto p nd hnd] at htv
      have ixn := hne.index (ki := .i64) (n := p) (by omega) (by omega)
      have ldn := fun o k => hne.load (o := o) (k := k) hte
      simp only [Int.toNat_natCast] at ixn
      have htl := htv.len
      have htl2 : (i64s (ints' (toN N p))).length = (toN N p).length := by simp
      rw [htl2] at htl
      have htoc := htv.cell
      have htM1 : SlR M1 tov 1 (i64s (ints' (toN N p))) := by
        obtain ⟨_, els2, hne2, _, hnds2⟩ := hGm1
        obtain ⟨t2, e2, h2⟩ := hnds2 p nd hnd
        rw [hto p nd hnd] at h2
        have h3 := hne2.grow hPM1.gr
        have e5 : els = els2 := by have := hne.1.symm.trans h3.1; simpa using this
        rw [e5, e2] at hte
        simp only [Option.some.injEq, List.cons.injEq, and_true, true_and] at hte
        rw [← hte]; exact h2
      simp (maxDischargeDepth := 30) only [hil', f0, f3, f4, f5, f6, f39, f40, f41, ixo, ldo, lR, ixR, stR, r0, List.append_nil, ldN, ixn, ldn, htoc, htl, amL, args0, Nat.reduceEqDiff, reduceCtorEq, ↓reduceIte, Nat.reduceAdd, resultsA, results1, Int.reduceNeg, splice, Nat.reduceLeDiff, part, fillA, fillE, Nat.reduceLT]
      let I1 := fun (k : Nat) (fr : Frame) (M : Mem) => ∃ (j : Nat) (tv : Nat → V) (ls : Nat → List Nat), j ≤ (toN N p).length ∧ k = (toN N p).length - j ∧ fr 0 = .ptr Nb 0 0 ∧ fr 3 = .int .i64 (n : Nat) ∧ fr 4 = ov ∧ fr 5 = .ptr Pr 0 0 ∧ fr 6 = .slice (Pr + 1) 0 n n true 1 ∧ fr 39 = ov ∧ fr 40 = .int .i64 L.length ∧ fr 41 = .int .i64 (i : Nat) ∧ fr 8 = .int .i64 (p : Nat) ∧ fr 58 = tov ∧ fr 59 = .int .i64 (toN N p).length ∧ fr 60 = .int .i64 (j : Nat) ∧ PM M1 br Pr (Pr + 1) capr exr n M (upd rkI p (i : Int)) tv ls ∧ Gath (toN N) (L.take i) ls n p j [] ∧ ∀ q, q < n → (ls q).length ≤ i * 5000 + j
      refine W_loop I1 ?_ (toN N p).length ?_
      · clear f0 f3 f4 f5 f6 f39 f40 f41 fr hPM1 hPM hMM hga hlen hovM ldo lR ixR stR ldN hne hel hnds ixn ldn htv htl
        rintro k fr M' ⟨j, tv, ls, hj, rfl, f0, f3, f4, f5, f6, f39, f40, f41, f8, f58, f59, f60, hPM, hga, hlen⟩
        unfold graph_net_holders_l1
        simp (maxDischargeDepth := 30) only [f0, f3, f4, f5, f6, f39, f40, f41, f8, f58, f59, f60, amL, args0, Nat.reduceEqDiff, reduceCtorEq, ↓reduceIte, Nat.reduceAdd, resultsA, results1, Int.reduceNeg, splice, Nat.reduceLeDiff, part, fillA, fillE, Nat.reduceLT]
        by_cases hjl : j < (toN N p).length
        · have hjl' : (j : Int) < (toN N p).length := by omega
          obtain ⟨q, hq⟩ : ∃ q, (toN N p)[j]? = some q := ⟨_, List.getElem?_eq_getElem hjl⟩
          have hqn : q < n := hlt p q (List.mem_of_getElem? hq)
          have htvM := htM1.grow hPM.gr
          have ixt := htvM.index (ki := .i64) (n := j) (by omega) (by rw [htl2]; omega)
          have ldt := fun o k => htvM.load (o := o) (k := k) (i := j) (el := [.int .i64 (q : Int)]) (by simp [hq])
          have ixf := hPM.fm.sl.index (ki := .i64) (n := q) (by omega) (by rw [vF_len]; omega)
          have ldf := fun o k => hPM.fm.sl.load (o := o) (k := k) (vF_get hqn)
          have hcf := (hPM.fm.g q hqn).sl.cell
          simp only [Int.toNat_natCast] at ixt ixf
          have hlq := hlen q hqn
          have htp := htoln p
          obtain ⟨u', M'', p1, p2, p3, p4, p5⟩ := hPM.push hqn p (by omega)
          have wj : IntKind.i64.wrap ((j : Int) + 1) = ((j + 1 : Nat) : Int) := by rw [wrap_i64] <;> omega
          simp (maxDischargeDepth := 30) only [hjl', f0, f3, f4, f5, f6, f39, f40, f41, f8, f58, f59, f60, ixt, ldt, ixf, ldf, hcf, amL, args0, Nat.reduceEqDiff, reduceCtorEq, ↓reduceIte, Nat.reduceAdd, resultsA, results1, Int.reduceNeg, splice, Nat.reduceLeDiff, part, fillA, fillE, Nat.reduceLT]
          refine ⟨_, _, p1, ?_⟩
          simp (maxDischargeDepth := 30) only [f0, f3, f4, f5, f6, f39, f40, f41, f8, f58, f59, f60, ixf, p4, r0, List.append_nil, wj, amL, args0, Nat.reduceEqDiff, reduceCtorEq, ↓reduceIte, Nat.reduceAdd, resultsA, results1, Int.reduceNeg, splice, Nat.reduceLeDiff, part, fillA, fillE, Nat.reduceLT]
          refine ⟨_, ?_, j + 1, _, _, by omega, rfl, by simp (maxDischargeDepth := 30) only [f0, amL, args0, Nat.reduceEqDiff, reduceCtorEq, ↓reduceIte, Nat.reduceAdd, resultsA, results1, Int.reduceNeg, splice, Nat.reduceLeDiff, part, fillA, fillE, Nat.reduceLT], by simp (maxDischargeDepth := 30) only [f3, amL, args0, Nat.reduceEqDiff, reduceCtorEq, ↓reduceIte, Nat.reduceAdd, resultsA, results1, Int.reduceNeg, splice, Nat.reduceLeDiff, part, fillA, fillE, Nat.reduceLT], by simp (maxDischargeDepth := 30) only [f4, amL, args0, Nat.reduceEqDiff, reduceCtorEq, ↓reduceIte, Nat.reduceAdd, resultsA, results1, Int.reduceNeg, splice, Nat.reduceLeDiff, part, fillA, fillE, Nat.reduceLT], by simp (maxDischargeDepth := 30) only [f5, amL, args0, Nat.reduceEqDiff, reduceCtorEq, ↓reduceIte, Nat.reduceAdd, resultsA, results1, Int.reduceNeg, splice, Nat.reduceLeDiff, part, fillA, fillE, Nat.reduceLT], by simp (maxDischargeDepth := 30) only [f6, amL, args0, Nat.reduceEqDiff, reduceCtorEq, ↓reduceIte, Nat.reduceAdd, resultsA, results1, Int.reduceNeg, splice, Nat.reduceLeDiff, part, fillA, fillE, Nat.reduceLT], by simp (maxDischargeDepth := 30) only [f39, amL, args0, Nat.reduceEqDiff, reduceCtorEq, ↓reduceIte, Nat.reduceAdd, resultsA, results1, Int.reduceNeg, splice, Nat.reduceLeDiff, part, fillA, fillE, Nat.reduceLT], by simp (maxDischargeDepth := 30) only [f40, amL, args0, Nat.reduceEqDiff, reduceCtorEq, ↓reduceIte, Nat.reduceAdd, resultsA, results1, Int.reduceNeg, splice, Nat.reduceLeDiff, part, fillA, fillE, Nat.reduceLT], by simp (maxDischargeDepth := 30) only [f41, amL, args0, Nat.reduceEqDiff, reduceCtorEq, ↓reduceIte, Nat.reduceAdd, resultsA, results1, Int.reduceNeg, splice, Nat.reduceLeDiff, part, fillA, fillE, Nat.reduceLT], by simp (maxDischargeDepth := 30) only [f8, amL, args0, Nat.reduceEqDiff, reduceCtorEq, ↓reduceIte, Nat.reduceAdd, resultsA, results1, Int.reduceNeg, splice, Nat.reduceLeDiff, part, fillA, fillE, Nat.reduceLT], by simp (maxDischargeDepth := 30) only [f58, amL, args0, Nat.reduceEqDiff, reduceCtorEq, ↓reduceIte, Nat.reduceAdd, resultsA, results1, Int.reduceNeg, splice, Nat.reduceLeDiff, part, fillA, fillE, Nat.reduceLT], by simp (maxDischargeDepth := 30) only [f59, amL, args0, Nat.reduceEqDiff, reduceCtorEq, ↓reduceIte, Nat.reduceAdd, resultsA, results1, Int.reduceNeg, splice, Nat.reduceLeDiff, part, fillA, fillE, Nat.reduceLT], by simp (maxDischargeDepth := 30) only [amL, args0, Nat.reduceEqDiff, reduceCtorEq, ↓reduceIte, Nat.reduceAdd, resultsA, results1, Int.reduceNeg, splice, Nat.reduceLeDiff, part, fillA, fillE, Nat.reduceLT], p5, hga.step hq, fun y hy => ?_⟩
          · omega
          · by_cases e : y = q
            · subst e; rw [upd_self]; simp; omega
            · rw [upd_ne e]; have := hlen y hy; omega
        · have hjl' : ¬ (j : Int) < (toN N p).length := by omega
          have hje : j = (toN N p).length := by omega
          subst hje
          have htp := htoln p
          simp (maxDischargeDepth := 30) only [hjl', f0, f3, f4, f5, f6, f39, f40, f41, f8, f58, f59, f60, wi, amL, args0, Nat.reduceEqDiff, reduceCtorEq, ↓reduceIte, Nat.reduceAdd, resultsA, results1, Int.reduceNeg, splice, Nat.reduceLeDiff, part, fillA, fillE, Nat.reduceLT]
          refine ⟨_, ?_, i + 1, _, tv, ls, by omega, rfl, by simp (maxDischargeDepth := 30) only [f0, amL, args0, Nat.reduceEqDiff, reduceCtorEq, ↓reduceIte, Nat.reduceAdd, resultsA, results1, Int.reduceNeg, splice, Nat.reduceLeDiff, part, fillA, fillE, Nat.reduceLT], by simp (maxDischargeDepth := 30) only [f3, amL, args0, Nat.reduceEqDiff, reduceCtorEq, ↓reduceIte, Nat.reduceAdd, resultsA, results1, Int.reduceNeg, splice, Nat.reduceLeDiff, part, fillA, fillE, Nat.reduceLT], by simp (maxDischargeDepth := 30) only [f4, amL, args0, Nat.reduceEqDiff, reduceCtorEq, ↓reduceIte, Nat.reduceAdd, resultsA, results1, Int.reduceNeg, splice, Nat.reduceLeDiff, part, fillA, fillE, Nat.reduceLT], by simp (maxDischargeDepth := 30) only [f5, amL, args0, Nat.reduceEqDiff, reduceCtorEq, ↓reduceIte, Nat.reduceAdd, resultsA, results1, Int.reduceNeg, splice, Nat.reduceLeDiff, part, fillA, fillE, Nat.reduceLT], by simp (maxDischargeDepth := 30) only [f6, amL, args0, Nat.reduceEqDiff, reduceCtorEq, ↓reduceIte, Nat.reduceAdd, resultsA, results1, Int.reduceNeg, splice, Nat.reduceLeDiff, part, fillA, fillE, Nat.reduceLT], by simp (maxDischargeDepth := 30) only [f39, amL, args0, Nat.reduceEqDiff, reduceCtorEq, ↓reduceIte, Nat.reduceAdd, resultsA, results1, Int.reduceNeg, splice, Nat.reduceLeDiff, part, fillA, fillE, Nat.reduceLT], by simp (maxDischargeDepth := 30) only [f40, amL, args0, Nat.reduceEqDiff, reduceCtorEq, ↓reduceIte, Nat.reduceAdd, resultsA, results1, Int.reduceNeg, splice, Nat.reduceLeDiff, part, fillA, fillE, Nat.reduceLT], by simp (maxDischargeDepth := 30) only [amL, args0, Nat.reduceEqDiff, reduceCtorEq, ↓reduceIte, Nat.reduceAdd, resultsA, results1, Int.reduceNeg, splice, Nat.reduceLeDiff, part, fillA, fillE, Nat.reduceLT], hPM, ?_, fun j' p' hj' hp' => ?_, hga.next hp 0, fun q hq => ?_⟩
          · omega
          · rw [upd_ne (by omega)]; exact hrn
          · by_cases e : j' = i
            · rw [e, hp] at hp'
              cases hp'
              rw [upd_self, e]
            · have hne' : p' ≠ p := fun e2 => by
                rw [e2] at hp'
                have h1 := List.getElem?_eq_some_iff.1 hp'
                have h2 := List.getElem?_eq_some_iff.1 hp
                obtain ⟨a1, a2⟩ := h1
                obtain ⟨b1, b2⟩ := h2
                exact e ((List.getElem_inj hord'.nd).1 (a2.trans b2.symm))
              rw [upd_ne hne']
              exact hrk j' p' (by omega) hp'
          · have := hlen q hq; omega
      · refine ⟨0, tv, ls, Nat.zero_le _, rfl, by simp (maxDischargeDepth := 30) only [f0, amL, args0, Nat.reduceEqDiff, reduceCtorEq, ↓reduceIte, Nat.reduceAdd, resultsA, results1, Int.reduceNeg, splice, Nat.reduceLeDiff, part, fillA, fillE, Nat.reduceLT], by simp (maxDischargeDepth := 30) only [f3, amL, args0, Nat.reduceEqDiff, reduceCtorEq, ↓reduceIte, Nat.reduceAdd, resultsA, results1, Int.reduceNeg, splice, Nat.reduceLeDiff, part, fillA, fillE, Nat.reduceLT], by simp (maxDischargeDepth := 30) only [f4, amL, args0, Nat.reduceEqDiff, reduceCtorEq, ↓reduceIte, Nat.reduceAdd, resultsA, results1, Int.reduceNeg, splice, Nat.reduceLeDiff, part, fillA, fillE, Nat.reduceLT], by simp (maxDischargeDepth := 30) only [f5, amL, args0, Nat.reduceEqDiff, reduceCtorEq, ↓reduceIte, Nat.reduceAdd, resultsA, results1, Int.reduceNeg, splice, Nat.reduceLeDiff, part, fillA, fillE, Nat.reduceLT], by simp (maxDischargeDepth := 30) only [f6, amL, args0, Nat.reduceEqDiff, reduceCtorEq, ↓reduceIte, Nat.reduceAdd, resultsA, results1, Int.reduceNeg, splice, Nat.reduceLeDiff, part, fillA, fillE, Nat.reduceLT], by simp (maxDischargeDepth := 30) only [f39, amL, args0, Nat.reduceEqDiff, reduceCtorEq, ↓reduceIte, Nat.reduceAdd, resultsA, results1, Int.reduceNeg, splice, Nat.reduceLeDiff, part, fillA, fillE, Nat.reduceLT], by simp (maxDischargeDepth := 30) only [f40, amL, args0, Nat.reduceEqDiff, reduceCtorEq, ↓reduceIte, Nat.reduceAdd, resultsA, results1, Int.reduceNeg, splice, Nat.reduceLeDiff, part, fillA, fillE, Nat.reduceLT], by simp (maxDischargeDepth := 30) only [f41, amL, args0, Nat.reduceEqDiff, reduceCtorEq, ↓reduceIte, Nat.reduceAdd, resultsA, results1, Int.reduceNeg, splice, Nat.reduceLeDiff, part, fillA, fillE, Nat.reduceLT], by simp (maxDischargeDepth := 30) only [amL, args0, Nat.reduceEqDiff, reduceCtorEq, ↓reduceIte, Nat.reduceAdd, resultsA, results1, Int.reduceNeg, splice, Nat.reduceLeDiff, part, fillA, fillE, Nat.reduceLT], by simp (maxDischargeDepth := 30) only [amL, args0, Nat.reduceEqDiff, reduceCtorEq, ↓reduceIte, Nat.reduceAdd, resultsA, results1, Int.reduceNeg, splice, Nat.reduceLeDiff, part, fillA, fillE, Nat.reduceLT], by simp (maxDischargeDepth := 30) only [amL, args0, Nat.reduceEqDiff, reduceCtorEq, ↓reduceIte, Nat.reduceAdd, resultsA, results1, Int.reduceNeg, splice, Nat.reduceLeDiff, part, fillA, fillE, Nat.reduceLT], by simp (maxDischargeDepth := 30) only [amL, args0, Nat.reduceEqDiff, reduceCtorEq, ↓reduceIte, Nat.reduceAdd, resultsA, results1, Int.reduceNeg, splice, Nat.reduceLeDiff, part, fillA, fillE, Nat.reduceLT]; rfl, hPM1, ?_, fun q hq => by have := hlen q hq; omega⟩
        intro q hq x
        rw [hga q hq x]
        simp
    · have hil' : ¬ (i : Int) < L.length := by omega
      have hie : i = L.length := by omega
      rw [hie, List.take_length] at hga
      rw [hie] at hrk hlen
      have hrsl := hrs.len
      rw [hrl] at hrsl
      have ldN := fun j k => load_at0 (k := k) (j := j) ((hg1.trans hPM.gr).get hN)
      simp (maxDischargeDepth := 30) only [hil', f0, f3, f4, f5, f6, f39, f40, f41, ldN, hrs.cell, hrsl, amL, args0, Nat.reduceEqDiff, reduceCtorEq, ↓reduceIte, Nat.reduceAdd, resultsA, results1, Int.reduceNeg, splice, Nat.reduceLeDiff, part, fillA, fillE, Nat.reduceLT]
      let I2 := fun (k : Nat) (fr : Frame) (M : Mem) => ∃ (i : Nat) (tv : Nat → V) (ls : Nat → List Nat), i ≤ (rootsN R).length ∧ k = (rootsN R).length - i ∧ fr 3 = .int .i64 (n : Nat) ∧ fr 4 = ov ∧ fr 5 = .ptr Pr 0 0 ∧ fr 6 = .slice (Pr + 1) 0 n n true 1 ∧ fr 80 = rv ∧ fr 81 = .int .i64 (rootsN R).length ∧ fr 82 = .int .i64 (i : Nat) ∧ PM M1 br Pr (Pr + 1) capr exr n M rkI tv ls ∧ Gath (toN N) L ls n 0 0 ((rootsN R).take i) ∧ ∀ q, q < n → (ls q).length ≤ L.length * 5000 + i
      refine W_loop I2 ?_ (rootsN R).length ?_
      · clear f0 f3 f4 f5 f6 f39 f40 f41 fr hga hlen ldN hil' hie hi hil
        rintro k fr M' ⟨i', tv, ls, hi, rfl, f3, f4, f5, f6, f80, f81, f82, hPM, hga, hlen⟩
        unfold graph_net_holders_l2
        simp (maxDischargeDepth := 30) only [f3, f4, f5, f6, f80, f81, f82, amL, args0, Nat.reduceEqDiff, reduceCtorEq, ↓reduceIte, Nat.reduceAdd, resultsA, results1, Int.reduceNeg, splice, Nat.reduceLeDiff, part, fillA, fillE, Nat.reduceLT]
        by_cases hil : i' < (rootsN R).length
        · have hil' : (i' : Int) < (rootsN R).length := by omega
          obtain ⟨q, hq⟩ : ∃ q, (rootsN R)[i']? = some q := ⟨_, List.getElem?_eq_getElem hil⟩
          have hqn : q < n := hRl q (List.mem_of_getElem? hq)
          have hrsM := (hrs.grow hg1).grow hPM.gr
          have ixt := hrsM.index (ki := .i64) (n := i') (by omega) (by rw [hrl]; omega)
          have ldt := fun o k => hrsM.load (o := o) (k := k) (nats_get hq)
          have ixf := hPM.fm.sl.index (ki := .i64) (n := q) (by omega) (by rw [vF_len]; omega)
          have ldf := fun o k => hPM.fm.sl.load (o := o) (k := k) (vF_get hqn)
          have hcf := (hPM.fm.g q hqn).sl.cell
          simp only [Int.toNat_natCast] at ixt ixf
          have hlq := hlen q hqn
          obtain ⟨u', M'', p1, p2, p3, p4, p5⟩ := hPM.push hqn n (by omega)
          have wj : IntKind.i64.wrap ((i' : Int) + 1) = ((i' + 1 : Nat) : Int) := by rw [wrap_i64] <;> omega
          simp (maxDischargeDepth := 30) only [hil', f3, f4, f5, f6, f80, f81, f82, ixt, ldt, ixf, ldf, hcf, amL, args0, Nat.reduceEqDiff, reduceCtorEq, ↓reduceIte, Nat.reduceAdd, resultsA, results1, Int.reduceNeg, splice, Nat.reduceLeDiff, part, fillA, fillE, Nat.reduceLT]
          refine ⟨_, _, p1, ?_⟩
          simp (maxDischargeDepth := 30) only [f3, f4, f5, f6, f80, f81, f82, ixf, p4, r0, List.append_nil, wj, amL, args0, Nat.reduceEqDiff, reduceCtorEq, ↓reduceIte, Nat.reduceAdd, resultsA, results1, Int.reduceNeg, splice, Nat.reduceLeDiff, part, fillA, fillE, Nat.reduceLT]
          refine ⟨_, ?_, i' + 1, _, _, by omega, rfl, by simp (maxDischargeDepth := 30) only [f3, amL, args0, Nat.reduceEqDiff, reduceCtorEq, ↓reduceIte, Nat.reduceAdd, resultsA, results1, Int.reduceNeg, splice, Nat.reduceLeDiff, part, fillA, fillE, Nat.reduceLT], by simp (maxDischargeDepth := 30) only [f4, amL, args0, Nat.reduceEqDiff, reduceCtorEq, ↓reduceIte, Nat.reduceAdd, resultsA, results1, Int.reduceNeg, splice, Nat.reduceLeDiff, part, fillA, fillE, Nat.reduceLT], by simp (maxDischargeDepth := 30) only [f5, amL, args0, Nat.reduceEqDiff, reduceCtorEq, ↓reduceIte, Nat.reduceAdd, resultsA, results1, Int.reduceNeg, splice, Nat.reduceLeDiff, part, fillA, fillE, Nat.reduceLT], by simp (maxDischargeDepth := 30) only [f6, amL, args0, Nat.reduceEqDiff, reduceCtorEq, ↓reduceIte, Nat.reduceAdd, resultsA, results1, Int.reduceNeg, splice, Nat.reduceLeDiff, part, fillA, fillE, Nat.reduceLT], by simp (maxDischargeDepth := 30) only [f80, amL, args0, Nat.reduceEqDiff, reduceCtorEq, ↓reduceIte, Nat.reduceAdd, resultsA, results1, Int.reduceNeg, splice, Nat.reduceLeDiff, part, fillA, fillE, Nat.reduceLT], by simp (maxDischargeDepth := 30) only [f81, amL, args0, Nat.reduceEqDiff, reduceCtorEq, ↓reduceIte, Nat.reduceAdd, resultsA, results1, Int.reduceNeg, splice, Nat.reduceLeDiff, part, fillA, fillE, Nat.reduceLT], by simp (maxDischargeDepth := 30) only [amL, args0, Nat.reduceEqDiff, reduceCtorEq, ↓reduceIte, Nat.reduceAdd, resultsA, results1, Int.reduceNeg, splice, Nat.reduceLeDiff, part, fillA, fillE, Nat.reduceLT], p5, hga.root hq, fun y hy => ?_⟩
          · omega
          · by_cases e : y = q
            · subst e; rw [upd_self]; simp; omega
            · rw [upd_ne e]; have := hlen y hy; omega
        · have hil' : ¬ (i' : Int) < (rootsN R).length := by omega
          have hie : i' = (rootsN R).length := by omega
          rw [hie, List.take_length] at hga
          simp (maxDischargeDepth := 30) only [hil', f3, f4, f5, f6, f80, f81, f82, w1, amL, args0, Nat.reduceEqDiff, reduceCtorEq, ↓reduceIte, Nat.reduceAdd, resultsA, results1, Int.reduceNeg, splice, Nat.reduceLeDiff, part, fillA, fillE, Nat.reduceLT]
          refine (Repeat_spec (own := true) (-2) (n + 1) (by exact List.getElem?_concat_length) (by omega)).mono ?_
          rintro v M7 ⟨hg7, bu, capu, exu, hbu, rfl, hd7, hcapu⟩
          rw [hrl2] at hcapu
          rw [intF_rep] at hd7
          have hg37 : Grow M' M7 := (Grow.refl M').app.trans hg7
          have hbu1 : M'.length ≤ bu := by simp at hbu; omega
          have hbul := (List.getElem?_eq_some_iff.1 hd7).1
          simp (maxDischargeDepth := 30) only [aft_mk, hrl2, amL, args0, Nat.reduceEqDiff, reduceCtorEq, ↓reduceIte, Nat.reduceAdd, resultsA, results1, Int.reduceNeg, splice, Nat.reduceLeDiff, part, fillA, fillE, Nat.reduceLT]
          generalize hM8 : M7 ++ [Blk.cells true [[V.slice bu 0 (n + 1) capu exu 1]]] = M8
          have hg38 : Grow M' M8 := by rw [← hM8]; exact hg37.app
          have hd8 : M8[bu]? = some (.cells true (intF (n + 1) fun _ => -2)) := by rw [← hM8]; exact getElem?_grow hd7
          have hp8 : M8[M7.length]? = some (.cells true [[V.slice bu 0 (n + 1) capu exu 1]]) := by rw [← hM8]; simp
          generalize hPu : M7.length = Pu at *
          have lU8 := fun k => load_at0 (k := k) (j := 0) hp8
          have slU8 : Sl M8 (.slice bu 0 (n + 1) capu exu 1) 1 (intF (n + 1) fun _ => -2) := by have := Sl.mk (cap := capu) (ex := exu) (z := 1) hd8; rwa [intF_len] at this
          have ixU8 := slU8.index (ki := .i64) (n := n) (by omega) (by rw [intF_len]; omega)
          have stU8 := store_own (n := 1) (len := n + 1) (cap := capu) (z := 1) (ex := exu) (x := .int .i64 (n : Int)) hd8 (intF_get (show n < n + 1 by omega)) rfl rfl rfl
          simp only [Int.toNat_natCast] at ixU8
          simp only [V.cells, intF_set] at stU8
          simp (maxDischargeDepth := 30) only [f3, f4, f5, f6, lU8, ixU8, stU8, r0, List.append_nil, amL, args0, Nat.reduceEqDiff, reduceCtorEq, ↓reduceIte, Nat.reduceAdd, resultsA, results1, Int.reduceNeg, splice, Nat.reduceLeDiff, part, fillA, fillE, Nat.reduceLT]
          -- the surroundings
          let h : HC := ⟨n, fun x => (rkI x + 1).toNat, L, ls⟩
          have hrkL : ∀ (j p : Nat), L[j]? = some p → h.rk p = j + 1 := fun j p hp => by
            have := hrk j p (List.getElem?_eq_some_iff.1 hp).1 hp
            show (rkI p + 1).toNat = _
            omega
          have hrkn : h.rk n = 0 := by show (rkI n + 1).toNat = 0; omega
          have hmemL : ∀ p, p < n → ∀ q, q ∈ ls p ↔ (q ∈ L ∧ p ∈ toN N q) ∨ (q = n ∧ p ∈ rootsN R) := fun p hp q => by rw [hga p hp q]; simp
          have hR' : HR h := by
            refine ⟨fun x hx => hord'.bnd x hx, hrkn, fun x hx => ?_, fun x y hx hy e => ?_, fun p q hp hq => ?_, fun p hp => ?_⟩
            · obtain ⟨j, hj⟩ := List.getElem?_of_mem (show x ∈ L from hx)
              rw [hrkL j x hj]; omega
            · obtain ⟨j, hj⟩ := List.getElem?_of_mem (show x ∈ L from hx)
              obtain ⟨j', hj'⟩ := List.getElem?_of_mem (show y ∈ L from hy)
              rw [hrkL j x hj, hrkL j' y hj'] at e
              have : j = j' := by omega
              subst this
              rw [hj] at hj'
              exact Option.some.inj hj'
            · rcases (hmemL p (hord'.bnd p hp) q).1 hq with h1 | h1
              · exact .inl h1.1
              · exact .inr h1.1
            · obtain ⟨j, hj⟩ := List.getElem?_of_mem (show p ∈ L from hp)
              rcases hord'.par j p hj with h1 | ⟨j', q, h1, h2, h3⟩
              · exact ⟨n, (hmemL p (hord'.bnd p hp) n).2 (.inr ⟨rfl, h1⟩), by rw [hrkL j p hj, hrkn]; omega⟩
              · exact ⟨q, (hmemL p (hord'.bnd p hp) q).2 (.inl ⟨List.mem_of_getElem? h2, h3⟩), by rw [hrkL j p hj, hrkL j' q h2]; omega⟩
          have hup0 : upd (fun _ => (-2 : Int)) n (n : Int) = encU (fun _ => n) (fun x => decide (x = n)) := by
            funext x
            by_cases e : x = n
            · subst e; simp [encU, upd_self]
            · simp [encU, upd_ne e, e]
          rw [hup0]
          have hI0 : HI h (fun _ => n) (fun x => decide (x = n)) 1 := HI.begin hR' _ fun x => by simp [h]
          have hbu8 : bu < Pu := hbul
          have hZ0 : ZM M' bu Pu capu exu (M8.set bu (.cells true (intF (h.k + 1) (encU (fun _ => n) (fun x => decide (x = n)))))) h.k (fun _ => n) (fun x => decide (x = n)) :=
            ⟨hg38.set hbu1 _, set_self' hd8, set_get (by omega) hp8, hcapu, hbu1, hbu8⟩
          refine (rounds hR' hn hord'.nd (by show L.length ≤ 4096; omega) hrkL (fun x hx => ?_) hPM.r hPM.pr (hov1.grow hPM.gr) hPM.fm.sl (fun p hp => (hPM.fm.g p hp).sl) (fun p hp => by have := hlen p hp; show (ls p).length < _; omega) hI0 hZ0 ?_ ?_ ?_ ?_ ?_ ?_).mono ?_
          · have : 0 ≤ rkI x + 1 := by
              rcases hx with hx | hx
              · obtain ⟨j, hj⟩ := List.getElem?_of_mem (show x ∈ L from hx)
                have := hrk j x (List.getElem?_eq_some_iff.1 hj).1 hj
                omega
              · have e : x = n := hx
                rw [e]; omega
            show rkI x = ((rkI x + 1).toNat : Int) - 1
            omega
          · simp (maxDischargeDepth := 30) only [f3, amL, args0, Nat.reduceEqDiff, reduceCtorEq, ↓reduceIte, Nat.reduceAdd, resultsA, results1, Int.reduceNeg, splice, Nat.reduceLeDiff, part, fillA, fillE, Nat.reduceLT]; rfl
          · simp (maxDischargeDepth := 30) only [f4, amL, args0, Nat.reduceEqDiff, reduceCtorEq, ↓reduceIte, Nat.reduceAdd, resultsA, results1, Int.reduceNeg, splice, Nat.reduceLeDiff, part, fillA, fillE, Nat.reduceLT]
          · simp (maxDischargeDepth := 30) only [f6, amL, args0, Nat.reduceEqDiff, reduceCtorEq, ↓reduceIte, Nat.reduceAdd, resultsA, results1, Int.reduceNeg, splice, Nat.reduceLeDiff, part, fillA, fillE, Nat.reduceLT]; rfl
          · simp (maxDischargeDepth := 30) only [amL, args0, Nat.reduceEqDiff, reduceCtorEq, ↓reduceIte, Nat.reduceAdd, resultsA, results1, Int.reduceNeg, splice, Nat.reduceLeDiff, part, fillA, fillE, Nat.reduceLT]
          · simp (maxDischargeDepth := 30) only [f5, amL, args0, Nat.reduceEqDiff, reduceCtorEq, ↓reduceIte, Nat.reduceAdd, resultsA, results1, Int.reduceNeg, splice, Nat.reduceLeDiff, part, fillA, fillE, Nat.reduceLT]
          · simp (maxDischargeDepth := 30) only [amL, args0, Nat.reduceEqDiff, reduceCtorEq, ↓reduceIte, Nat.reduceAdd, resultsA, results1, Int.reduceNeg, splice, Nat.reduceLeDiff, part, fillA, fillE, Nat.reduceLT]
          rintro _ fr9 M9 ⟨rfl, g3, g13, up, set, hZ, hI, hall, hmt⟩
          have g3 : fr9 3 = .int .i64 (n : Nat) := g3
          have hZn : ZM M' bu Pu capu exu M9 n up set := hZ
          simp (maxDischargeDepth := 30) only [g3, g13, amL, args0, Nat.reduceEqDiff, reduceCtorEq, ↓reduceIte, Nat.reduceAdd, resultsA, results1, Int.reduceNeg, splice, Nat.reduceLeDiff, part, fillA, fillE, Nat.reduceLT]
          let cur := fun (i : Nat) (x : Nat) => if x < i ∧ encU up set x = n then (-1 : Int) else encU up set x
          let I6 := fun (k : Nat) (fr : Frame) (M : Mem) => ∃ (i : Nat), i ≤ n ∧ k = n - i ∧ fr 3 = .int .i64 (n : Nat) ∧ fr 13 = .ptr Pu 0 0 ∧ fr 148 = .int .i64 (n : Nat) ∧ fr 149 = .int .i64 (i : Nat) ∧ Grow m M ∧ M[bu]? = some (.cells true (intF (n + 1) (cur i))) ∧ M[Pu]? = some (.cells true [[.slice bu 0 (n + 1) capu exu 1]])
          have hgm9 : Grow m M9 := (hg1.trans hPM.gr).trans hZn.gr
          have hmM' : m.length ≤ M'.length := (hg1.trans hPM.gr).len
          refine W_loop I6 ?_ n ?_
          · clear f3 f4 f5 f6 f80 f81 f82 fr g3 g13 hil' hie hil hi
            rintro k fr M ⟨i, hi, rfl, f3, f13, f148, f149, hg, hb, hpb⟩
            unfold graph_net_holders_l6
            have lU := fun k => load_at0 (k := k) (j := 0) hpb
            have slU : Sl M (.slice bu 0 (n + 1) capu exu 1) 1 (intF (n + 1) (cur i)) := by have := Sl.mk (cap := capu) (ex := exu) (z := 1) hb; rwa [intF_len] at this
            simp (maxDischargeDepth := 30) only [f3, f13, f148, f149, amL, args0, Nat.reduceEqDiff, reduceCtorEq, ↓reduceIte, Nat.reduceAdd, resultsA, results1, Int.reduceNeg, splice, Nat.reduceLeDiff, part, fillA, fillE, Nat.reduceLT]
            by_cases hil : i < n
            · have hil' : (i : Int) < n := by omega
              have ixu := slU.index (ki := .i64) (n := i) (by omega) (by rw [intF_len]; omega)
              have ldu := fun o k => slU.load (o := o) (k := k) (intF_get (show i < n + 1 by omega))
              have hci : cur i i = encU up set i := by simp [cur]
              rw [hci] at ldu
              have stu := store_own (n := 1) (len := n + 1) (cap := capu) (z := 1) (ex := exu) (x := .int .i64 (-1)) hb (intF_get (show i < n + 1 by omega)) rfl rfl rfl
              simp only [Int.toNat_natCast] at ixu
              simp only [V.cells, intF_set] at stu
              have wi : IntKind.i64.wrap ((i : Int) + 1) = ((i + 1 : Nat) : Int) := by rw [wrap_i64] <;> omega
              by_cases he : encU up set i = n
              · simp (maxDischargeDepth := 30) only [hil', f3, f13, f148, f149, lU, ixu, ldu, he, stu, wi, r0, List.append_nil, amL, args0, Nat.reduceEqDiff, reduceCtorEq, ↓reduceIte, Nat.reduceAdd, resultsA, results1, Int.reduceNeg, splice, Nat.reduceLeDiff, part, fillA, fillE, Nat.reduceLT]
                refine ⟨_, ?_, i + 1, by omega, rfl, by simp (maxDischargeDepth := 30) only [f3, amL, args0, Nat.reduceEqDiff, reduceCtorEq, ↓reduceIte, Nat.reduceAdd, resultsA, results1, Int.reduceNeg, splice, Nat.reduceLeDiff, part, fillA, fillE, Nat.reduceLT], by simp (maxDischargeDepth := 30) only [f13, amL, args0, Nat.reduceEqDiff, reduceCtorEq, ↓reduceIte, Nat.reduceAdd, resultsA, results1, Int.reduceNeg, splice, Nat.reduceLeDiff, part, fillA, fillE, Nat.reduceLT], by simp (maxDischargeDepth := 30) only [f148, amL, args0, Nat.reduceEqDiff, reduceCtorEq, ↓reduceIte, Nat.reduceAdd, resultsA, results1, Int.reduceNeg, splice, Nat.reduceLeDiff, part, fillA, fillE, Nat.reduceLT], by simp (maxDischargeDepth := 30) only [amL, args0, Nat.reduceEqDiff, reduceCtorEq, ↓reduceIte, Nat.reduceAdd, resultsA, results1, Int.reduceNeg, splice, Nat.reduceLeDiff, part, fillA, fillE, Nat.reduceLT], hg.set (by omega) _, ?_, set_get (by omega) hpb⟩
                · omega
                · have : upd (cur i) i (-1) = cur (i + 1) := by
                    funext x
                    by_cases e : x = i
                    · subst e; simp [cur, upd_self, he]
                    · rw [upd_ne e]
                      have : (x < i + 1) = (x < i) := by simp; omega
                      simp only [cur, this]
                  rw [← this]
                  exact set_self' hb
              · simp (maxDischargeDepth := 30) only [hil', f3, f13, f148, f149, lU, ixu, ldu, he, wi, r0, List.append_nil, amL, args0, Nat.reduceEqDiff, reduceCtorEq, ↓reduceIte, Nat.reduceAdd, resultsA, results1, Int.reduceNeg, splice, Nat.reduceLeDiff, part, fillA, fillE, Nat.reduceLT]
                refine ⟨_, ?_, i + 1, by omega, rfl, by simp (maxDischargeDepth := 30) only [f3, amL, args0, Nat.reduceEqDiff, reduceCtorEq, ↓reduceIte, Nat.reduceAdd, resultsA, results1, Int.reduceNeg, splice, Nat.reduceLeDiff, part, fillA, fillE, Nat.reduceLT], by simp (maxDischargeDepth := 30) only [f13, amL, args0, Nat.reduceEqDiff, reduceCtorEq, ↓reduceIte, Nat.reduceAdd, resultsA, results1, Int.reduceNeg, splice, Nat.reduceLeDiff, part, fillA, fillE, Nat.reduceLT], by simp (maxDischargeDepth := 30) only [f148, amL, args0, Nat.reduceEqDiff, reduceCtorEq, ↓reduceIte, Nat.reduceAdd, resultsA, results1, Int.reduceNeg, splice, Nat.reduceLeDiff, part, fillA, fillE, Nat.reduceLT], by simp (maxDischargeDepth := 30) only [amL, args0, Nat.reduceEqDiff, reduceCtorEq, ↓reduceIte, Nat.reduceAdd, resultsA, results1, Int.reduceNeg, splice, Nat.reduceLeDiff, part, fillA, fillE, Nat.reduceLT], hg, ?_, hpb⟩
                · omega
                · have : cur i = cur (i + 1) := by
                    funext x
                    by_cases e : x = i
                    · subst e; simp [cur, he]
                    · have : (x < i + 1) = (x < i) := by simp; omega
                      simp only [cur, this]
                  rw [← this]
                  exact hb
            · have hil' : ¬ (i : Int) < n := by omega
              have hie : i = n := by omega
              subst hie
              have hsl : sliceV (.slice bu 0 (i + 1) capu exu 1) none (some (.int .i64 i)) none = some (.slice bu 0 i capu exu 1) := by
                have : i ≤ capu := by have := hZn.cu; omega
                simp [sliceV, bound, this]
              have hzo : zOk (.slice bu 0 (i + 1) capu exu 1) 1 = true := by simp [zOk]
              simp (maxDischargeDepth := 30) only [hil', f3, f13, f148, f149, lU, Option.map_none, hzo, hsl, amL, args0, Nat.reduceEqDiff, reduceCtorEq, ↓reduceIte, Nat.reduceAdd, resultsA, results1, Int.reduceNeg, splice, Nat.reduceLeDiff, part, fillA, fillE, Nat.reduceLT]
              refine ⟨hg, cur i, ⟨?_, by simp [zOk]⟩, ?_⟩
              · simp only [elems, hb, intF_len]
                rw [if_pos (by omega)]
                have : (intF (i + 1) (cur i)).take i = intF i (cur i) := by
                  unfold intF
                  rw [List.range_succ, List.map_append, List.take_left' (by simp)]
                simp [this]
              unfold HoldRes
              rw [hnn]
              refine ⟨up, h.rk, fun p hp => ⟨fun hnl => ?_, fun hl => ?_⟩⟩
              · have hs : set p = false := by
                  cases hsp : set p with
                  | false => rfl
                  | true =>
                    exfalso
                    rcases hI.mem p hsp with h1 | h1
                    · exact hnl ((hord'.live p).1 h1)
                    · have h1 : p = i := h1
                      omega
                have : encU up set p = -2 := by simp [encU, hs]
                simp only [cur, this]
                rw [if_neg (by omega)]
              · have hpL : p ∈ L := (hord'.live p).2 hl
                have hs := hall p hpL
                have he : encU up set p = (up p : Nat) := by simp [encU, hs]
                obtain ⟨h1, h2⟩ := hI.up_set p hpL hs
                refine ⟨?_, h2, fun d hd => ?_⟩
                · rcases hI.mem (up p) h1 with h3 | h3
                  · have h4 := hord'.bnd (up p) h3
                    refine .inr ⟨h4, ?_, (hord'.live _).1 h3⟩
                    simp only [cur, he]
                    rw [if_neg (by omega)]
                  · have h3 : up p = i := h3
                    refine .inl ⟨h3, ?_⟩
                    simp only [cur, he, h3]
                    simp [hp]
                · have h5 := hI.fixed hR' hall hmt (d := d) hpL
                  have h6 := av_pth (to := toN N) (src := rootsN R) (h := h) hord'.live (fun x hx => hord'.bnd x hx) (fun p hp q => hmemL p (hord'.bnd p hp) q) (show d < h.k from hd) (show p ∈ h.L from hpL)
                  exact h5.trans (not_congr h6)
          · refine ⟨0, Nat.zero_le _, rfl, by simp (maxDischargeDepth := 30) only [g3, amL, args0, Nat.reduceEqDiff, reduceCtorEq, ↓reduceIte, Nat.reduceAdd, resultsA, results1, Int.reduceNeg, splice, Nat.reduceLeDiff, part, fillA, fillE, Nat.reduceLT], by simp (maxDischargeDepth := 30) only [g13, amL, args0, Nat.reduceEqDiff, reduceCtorEq, ↓reduceIte, Nat.reduceAdd, resultsA, results1, Int.reduceNeg, splice, Nat.reduceLeDiff, part, fillA, fillE, Nat.reduceLT], by simp (maxDischargeDepth := 30) only [amL, args0, Nat.reduceEqDiff, reduceCtorEq, ↓reduceIte, Nat.reduceAdd, resultsA, results1, Int.reduceNeg, splice, Nat.reduceLeDiff, part, fillA, fillE, Nat.reduceLT], by simp (maxDischargeDepth := 30) only [amL, args0, Nat.reduceEqDiff, reduceCtorEq, ↓reduceIte, Nat.reduceAdd, resultsA, results1, Int.reduceNeg, splice, Nat.reduceLeDiff, part, fillA, fillE, Nat.reduceLT]; rfl, hgm9, ?_, hZn.pu⟩
            have : cur 0 = encU up set := by funext x; simp [cur]
            rw [this]
            exact hZn.u
      · exact ⟨0, tv, ls, Nat.zero_le _, rfl, by simp (maxDischargeDepth := 30) only [f3, amL, args0, Nat.reduceEqDiff, reduceCtorEq, ↓reduceIte, Nat.reduceAdd, resultsA, results1, Int.reduceNeg, splice, Nat.reduceLeDiff, part, fillA, fillE, Nat.reduceLT], by simp (maxDischargeDepth := 30) only [f4, amL, args0, Nat.reduceEqDiff, reduceCtorEq, ↓reduceIte, Nat.reduceAdd, resultsA, results1, Int.reduceNeg, splice, Nat.reduceLeDiff, part, fillA, fillE, Nat.reduceLT], by simp (maxDischargeDepth := 30) only [f5, amL, args0, Nat.reduceEqDiff, reduceCtorEq, ↓reduceIte, Nat.reduceAdd, resultsA, results1, Int.reduceNeg, splice, Nat.reduceLeDiff, part, fillA, fillE, Nat.reduceLT], by simp (maxDischargeDepth := 30) only [f6, amL, args0, Nat.reduceEqDiff, reduceCtorEq, ↓reduceIte, Nat.reduceAdd, resultsA, results1, Int.reduceNeg, splice, Nat.reduceLeDiff, part, fillA, fillE, Nat.reduceLT], by simp (maxDischargeDepth := 30) only [amL, args0, Nat.reduceEqDiff, reduceCtorEq, ↓reduceIte, Nat.reduceAdd, resultsA, results1, Int.reduceNeg, splice, Nat.reduceLeDiff, part, fillA, fillE, Nat.reduceLT], by simp (maxDischargeDepth := 30) only [amL, args0, Nat.reduceEqDiff, reduceCtorEq, ↓reduceIte, Nat.reduceAdd, resultsA, results1, Int.reduceNeg, splice, Nat.reduceLeDiff, part, fillA, fillE, Nat.reduceLT], by simp (maxDischargeDepth := 30) only [amL, args0, Nat.reduceEqDiff, reduceCtorEq, ↓reduceIte, Nat.reduceAdd, resultsA, results1, Int.reduceNeg, splice, Nat.reduceLeDiff, part, fillA, fillE, Nat.reduceLT]; rfl, hPM, by simpa using hga, fun q hq => by have := hlen q hq; omega⟩
  · refine ⟨0, _, _, _, Nat.zero_le _, rfl, by simp (maxDischargeDepth := 30) only [amL, args0, Nat.reduceEqDiff, reduceCtorEq, ↓reduceIte, Nat.reduceAdd, resultsA, results1, Int.reduceNeg, splice, Nat.reduceLeDiff, part, fillA, fillE, Nat.reduceLT], by simp (maxDischargeDepth := 30) only [amL, args0, Nat.reduceEqDiff, reduceCtorEq, ↓reduceIte, Nat.reduceAdd, resultsA, results1, Int.reduceNeg, splice, Nat.reduceLeDiff, part, fillA, fillE, Nat.reduceLT], by simp (maxDischargeDepth := 30) only [amL, args0, Nat.reduceEqDiff, reduceCtorEq, ↓reduceIte, Nat.reduceAdd, resultsA, results1, Int.reduceNeg, splice, Nat.reduceLeDiff, part, fillA, fillE, Nat.reduceLT], by simp (maxDischargeDepth := 30) only [amL, args0, Nat.reduceEqDiff, reduceCtorEq, ↓reduceIte, Nat.reduceAdd, resultsA, results1, Int.reduceNeg, splice, Nat.reduceLeDiff, part, fillA, fillE, Nat.reduceLT], by simp (maxDischargeDepth := 30) only [amL, args0, Nat.reduceEqDiff, reduceCtorEq, ↓reduceIte, Nat.reduceAdd, resultsA, results1, Int.reduceNeg, splice, Nat.reduceLeDiff, part, fillA, fillE, Nat.reduceLT], by simp (maxDischargeDepth := 30) only [amL, args0, Nat.reduceEqDiff, reduceCtorEq, ↓reduceIte, Nat.reduceAdd, resultsA, results1, Int.reduceNeg, splice, Nat.reduceLeDiff, part, fillA, fillE, Nat.reduceLT], by simp (maxDischargeDepth := 30) only [amL, args0, Nat.reduceEqDiff, reduceCtorEq, ↓reduceIte, Nat.reduceAdd, resultsA, results1, Int.reduceNeg, splice, Nat.reduceLeDiff, part, fillA, fillE, Nat.reduceLT], by simp (maxDischargeDepth := 30) only [amL, args0, Nat.reduceEqDiff, reduceCtorEq, ↓reduceIte, Nat.reduceAdd, resultsA, results1, Int.reduceNeg, splice, Nat.reduceLeDiff, part, fillA, fillE, Nat.reduceLT]; rfl, hPM0, upd_self, fun j p hj => absurd hj (Nat.not_lt_zero _), fun q hq x => by simp, fun q hq => by simp⟩
end Go.AM.G


set_option maxRecDepth 100000
namespace Go.AM.G
open Go Go.AM
theorem Holders_spec {m : Mem} {nv rv : V} {N : List NodeA} {R : List Int} (hG : Gr m nv rv N R) (hf : Fits N R) : C S n_graph_Holders [.agg [nv, rv]] m (fun r m' => Grow m m' ∧ ((validG N R = false ∧ r = .tup [.nils, .int .i64 2]) ∨ (validG N R = true ∧ ∃ v hr, r = .tup [v, .int .i64 0] ∧ Sl m' v 1 (intF N.length hr) ∧ HoldRes N R hr))) := by
  refine C_body rfl rfl rfl ?_
  unfold graph_Holders
  obtain ⟨hc1, hc2⟩ := hG.cells
  simp (maxDischargeDepth := 30) only [hc1, hc2, amL, args0, Nat.reduceEqDiff, reduceCtorEq, ↓reduceIte, Nat.reduceAdd, resultsA, results1, Int.reduceNeg, splice, Nat.reduceLeDiff, part, fillA, fillE, Nat.reduceLT]
  refine (Check_spec (hG.grow (Grow.refl _).app) hf).mono ?_
  rintro _ M1 ⟨rfl, hg1⟩
  have hgm1 : Grow m M1 := (Grow.refl m).app.trans hg1
  have hT1 : M1[m.length]? = some (.cells true [[nv, rv]]) := hg1.get (by simp)
  cases hval : validG N R with
  | false =>
    have c2 : ¬ (2 : Int) = 0 := by decide
    simp (maxDischargeDepth := 30) only [aft_mk, c2, Bool.false_eq_true, amL, args0, Nat.reduceEqDiff, reduceCtorEq, ↓reduceIte, Nat.reduceAdd, resultsA, results1, Int.reduceNeg, splice, Nat.reduceLeDiff, part, fillA, fillE, Nat.reduceLT]
    exact ⟨hgm1, .inl trivial⟩
  | true =>
    have c00 : ¬ ¬ (0 : Int) = 0 := by omega
    have ldT1 := fun j k => load_at0 (k := k) (j := j) hT1
    simp (maxDischargeDepth := 30) only [aft_mk, c00, ldT1, hc1, hc2, amL, args0, Nat.reduceEqDiff, reduceCtorEq, ↓reduceIte, Nat.reduceAdd, resultsA, results1, Int.reduceNeg, splice, Nat.reduceLeDiff, part, fillA, fillE, Nat.reduceLT]
    have hG2 := hG.grow (hgm1.app (g := [Blk.cells true [[nv, rv]]]))
    refine (holders_spec (own := true) hG2 hf hval (by simp)).mono ?_
    rintro v M2 ⟨hg2, hr, hsl, hres⟩
    simp (maxDischargeDepth := 30) only [aft_mk, amL, args0, Nat.reduceEqDiff, reduceCtorEq, ↓reduceIte, Nat.reduceAdd, resultsA, results1, Int.reduceNeg, splice, Nat.reduceLeDiff, part, fillA, fillE, Nat.reduceLT]
    exact ⟨hgm1.app.trans hg2, .inr ⟨v, hr, rfl, hsl, hres⟩⟩
theorem there_spec {m : Mem} {nv rv : V} {N : List NodeA} {R : List Int} (hG : Gr m nv rv N R) (hf : Fits N R) (x : Int) : C S n_graph_there [.agg [nv, rv], .int .i64 x] m (fun r m' => Grow m m' ∧ r = .int .i64 (if validG N R = true then (if x < 0 ∨ (N.length : Int) ≤ x then 1 else 0) else 2)) := by
  refine C_body rfl rfl rfl ?_
  unfold graph_there
  obtain ⟨hc1, hc2⟩ := hG.cells
  obtain ⟨_, els, hne, hel, _⟩ := id hG
  simp (maxDischargeDepth := 30) only [hc1, hc2, amL, args0, Nat.reduceEqDiff, reduceCtorEq, ↓reduceIte, Nat.reduceAdd, resultsA, results1, Int.reduceNeg, splice, Nat.reduceLeDiff, part, fillA, fillE, Nat.reduceLT]
  refine (Check_spec (hG.grow (Grow.refl _).app) hf).mono ?_
  rintro _ M1 ⟨rfl, hg1⟩
  have hgm1 : Grow m M1 := (Grow.refl m).app.trans hg1
  have hT1 : M1[m.length]? = some (.cells true [[nv, rv]]) := hg1.get (by simp)
  have ldT1 := fun j k => load_at0 (k := k) (j := j) hT1
  cases hval : validG N R with
  | false =>
    have c2 : ¬ (2 : Int) = 0 := by decide
    simp (maxDischargeDepth := 30) only [aft_mk, c2, Bool.false_eq_true, amL, args0, Nat.reduceEqDiff, reduceCtorEq, ↓reduceIte, Nat.reduceAdd, resultsA, results1, Int.reduceNeg, splice, Nat.reduceLeDiff, part, fillA, fillE, Nat.reduceLT]
    exact hgm1
  | true =>
    have c00 : ¬ ¬ (0 : Int) = 0 := by omega
    by_cases h1 : x < 0
    · simp (maxDischargeDepth := 30) only [aft_mk, c00, h1, true_or, amL, args0, Nat.reduceEqDiff, reduceCtorEq, ↓reduceIte, Nat.reduceAdd, resultsA, results1, Int.reduceNeg, splice, Nat.reduceLeDiff, part, fillA, fillE, Nat.reduceLT]
      exact hgm1
    · by_cases h2 : (N.length : Int) ≤ x
      · simp (maxDischargeDepth := 30) only [aft_mk, c00, h1, ldT1, hne.len, hel, h2, or_true, amL, args0, Nat.reduceEqDiff, reduceCtorEq, ↓reduceIte, Nat.reduceAdd, resultsA, results1, Int.reduceNeg, splice, Nat.reduceLeDiff, part, fillA, fillE, Nat.reduceLT]
        exact hgm1
      · simp (maxDischargeDepth := 30) only [aft_mk, c00, h1, ldT1, hne.len, hel, h2, or_self, amL, args0, Nat.reduceEqDiff, reduceCtorEq, ↓reduceIte, Nat.reduceAdd, resultsA, results1, Int.reduceNeg, splice, Nat.reduceLeDiff, part, fillA, fillE, Nat.reduceLT]
        exact hgm1
/-- how many words a node has. -/
def wd (N : List NodeA) (p : Nat) : Int := ((N[p]?).map (·.words)).getD 0
def sumW (N : List NodeA) (hl : Nat → Bool) (n : Nat) : Int := ((List.range n).map fun p => if hl p then wd N p else 0).sum
theorem sumW_succ {N : List NodeA} {hl : Nat → Bool} {n : Nat} : sumW N hl (n + 1) = sumW N hl n + (if hl n then wd N n else 0) := by
  unfold sumW
  rw [List.range_succ, List.map_append, List.sum_append]
  simp
theorem wd_get {N : List NodeA} {p : Nat} {x : NodeA} (h : N[p]? = some x) : wd N p = x.words := by simp [wd, h]
theorem wd_bnd {N : List NodeA} {R : List Int} (h : validG N R = true) (p : Nat) : 0 ≤ wd N p ∧ wd N p ≤ 49 := by
  unfold wd
  cases hp : N[p]? with
  | none => simp
  | some x =>
    simp only [validG, Bool.and_eq_true, decide_eq_true_eq] at h
    have := nodes_ok N _ _ h.2.2 x (List.mem_of_getElem? hp)
    simp
    omega
theorem sumW_bnd {N : List NodeA} {R : List Int} (h : validG N R = true) (hl : Nat → Bool) : ∀ n : Nat, 0 ≤ sumW N hl n ∧ sumW N hl n ≤ 49 * n
  | 0 => by simp [sumW]
  | n + 1 => by
    rw [sumW_succ]
    have := sumW_bnd h hl n
    have := wd_bnd h n
    split <;> omega
theorem Retained_spec {m : Mem} {nv rv : V} {N : List NodeA} {R : List Int} (hG : Gr m nv rv N R) (hf : Fits N R) (x : Int) (hl : Nat → Bool) (hhl : ∀ p, p < N.length → (hl p = true ↔ Live N R p ∧ ¬ ∃ j, Pth (toN N) (rootsN R) x j p)) : C S n_graph_Retained [.agg [nv, rv], .int .i64 x] m (fun r m' => Grow m m' ∧ r = if validG N R = true then (if x < 0 ∨ (N.length : Int) ≤ x then .tup [.int .i64 0, .int .i64 1] else .tup [.int .i64 (sumW N hl N.length), .int .i64 0]) else .tup [.int .i64 0, .int .i64 2]) := by
  refine C_body rfl rfl rfl ?_
  unfold graph_Retained
  obtain ⟨hc1, hc2⟩ := hG.cells
  simp (maxDischargeDepth := 30) only [hc1, hc2, amL, args0, Nat.reduceEqDiff, reduceCtorEq, ↓reduceIte, Nat.reduceAdd, resultsA, results1, Int.reduceNeg, splice, Nat.reduceLeDiff, part, fillA, fillE, Nat.reduceLT]
  refine (there_spec (hG.grow (Grow.refl _).app) hf x).mono ?_
  rintro _ M1 ⟨hg1, rfl⟩
  have hgm1 : Grow m M1 := (Grow.refl m).app.trans hg1
  have hT1 : M1[m.length]? = some (.cells true [[nv, rv]]) := hg1.get (by simp)
  have ldT1 := fun j k => load_at0 (k := k) (j := j) hT1
  cases hval : validG N R with
  | false =>
    have c2 : ¬ (2 : Int) = 0 := by decide
    simp (maxDischargeDepth := 30) only [aft_mk, c2, Bool.false_eq_true, amL, args0, Nat.reduceEqDiff, reduceCtorEq, ↓reduceIte, Nat.reduceAdd, resultsA, results1, Int.reduceNeg, splice, Nat.reduceLeDiff, part, fillA, fillE, Nat.reduceLT]
    exact hgm1
  | true =>
    by_cases hx : x < 0 ∨ (N.length : Int) ≤ x
    · have c1 : ¬ (1 : Int) = 0 := by decide
      simp (maxDischargeDepth := 30) only [aft_mk, hx, c1, amL, args0, Nat.reduceEqDiff, reduceCtorEq, ↓reduceIte, Nat.reduceAdd, resultsA, results1, Int.reduceNeg, splice, Nat.reduceLeDiff, part, fillA, fillE, Nat.reduceLT]
      exact hgm1
    obtain ⟨hn, hto, hlt, hR, hRl, _⟩ := valid_to hval
    have c00 : ¬ ¬ (0 : Int) = 0 := by omega
    simp (maxDischargeDepth := 30) only [aft_mk, hx, c00, ldT1, hc1, hc2, amL, args0, Nat.reduceEqDiff, reduceCtorEq, ↓reduceIte, Nat.reduceAdd, resultsA, results1, Int.reduceNeg, splice, Nat.reduceLeDiff, part, fillA, fillE, Nat.reduceLT]
    have hG2 := hG.grow (hgm1.app (g := [Blk.cells true [[nv, rv]]]))
    refine (holders_spec (own := true) hG2 hf hval (by simp)).mono ?_
    rintro v M2 ⟨hg2, hr, hsl, hres⟩
    have hgm2 := hgm1.app.trans hg2
    have ldT2 := fun j k => load_at0 (k := k) (j := j) ((Grow.refl _).app.trans hg2 |>.get hT1)
    obtain ⟨y, rfl⟩ : ∃ y : Nat, x = y := ⟨x.toNat, by omega⟩
    have hyn : y < N.length := by omega
    obtain ⟨up, rk, hup⟩ := hres
    obtain ⟨_, els, hne, hel, hnds⟩ := hG.grow hgm2
    have r0 : List.replicate 0 Blk.dead = [] := rfl
    simp (maxDischargeDepth := 30) only [aft_mk, hsl.len, intF_len, amL, args0, Nat.reduceEqDiff, reduceCtorEq, ↓reduceIte, Nat.reduceAdd, resultsA, results1, Int.reduceNeg, splice, Nat.reduceLeDiff, part, fillA, fillE, Nat.reduceLT]
    let I := fun (k : Nat) (fr : Frame) (M : Mem) => ∃ i : Nat, i ≤ N.length ∧ k = N.length - i ∧ M = M2 ∧ fr 1 = .int .i64 y ∧ fr 2 = .ptr m.length 0 0 ∧ fr 7 = v ∧ fr 8 = .int .i64 (sumW N hl i) ∧ fr 22 = .int .i64 N.length ∧ fr 23 = .int .i64 (i : Nat)
    refine W_loop I ?_ N.length ?_
    · rintro k fr M ⟨i, hi, rfl, rfl, f1, f2, f7, f8, f22, f23⟩
      unfold graph_Retained_l0
      simp (maxDischargeDepth := 30) only [f1, f2, f7, f8, f22, f23, amL, args0, Nat.reduceEqDiff, reduceCtorEq, ↓reduceIte, Nat.reduceAdd, resultsA, results1, Int.reduceNeg, splice, Nat.reduceLeDiff, part, fillA, fillE, Nat.reduceLT]
      by_cases hil : i < N.length
      · have hil' : (i : Int) < N.length := by omega
        have wi : IntKind.i64.wrap ((i : Int) + 1) = ((i + 1 : Nat) : Int) := by rw [wrap_i64] <;> omega
        obtain ⟨hu1, hu2⟩ := hup i hil
        have hsb := sumW_bnd hval hl i
        have hwb := wd_bnd hval i
        have hss := sumW_succ (N := N) (hl := hl) (n := i)
        obtain ⟨nd, hnd⟩ : ∃ nd, N[i]? = some nd := ⟨_, List.getElem?_eq_getElem hil⟩
        obtain ⟨tv, hte, htv⟩ := hnds i nd hnd
        have ixn := hne.index (ki := .i64) (n := i) (by omega) (by omega)
        have ldn := fun o k => hne.load (o := o) (k := k) hte
        simp only [Int.toNat_natCast] at ixn
        have hwe := wd_get hnd
        have ixi := hsl.index (ki := .i64) (n := i) (by omega) (by rw [intF_len]; omega)
        have ldi := fun o k => hsl.load (o := o) (k := k) (intF_get hil)
        simp only [Int.toNat_natCast] at ixi
        have ww : IntKind.i64.wrap (sumW N hl i + nd.words) = sumW N hl i + nd.words := by rw [wrap_i64] <;> omega
        simp (maxDischargeDepth := 30) only [hil', f1, f2, f7, f8, f22, f23, amL, args0, Nat.reduceEqDiff, reduceCtorEq, ↓reduceIte, Nat.reduceAdd, resultsA, results1, Int.reduceNeg, splice, Nat.reduceLeDiff, part, fillA, fillE, Nat.reduceLT]
        let J := fun (k : Nat) (fr : Frame) (M' : Mem) => M' = M ∧ fr 1 = .int .i64 y ∧ fr 2 = .ptr m.length 0 0 ∧ fr 7 = v ∧ fr 8 = .int .i64 (sumW N hl i) ∧ fr 22 = .int .i64 N.length ∧ fr 23 = .int .i64 (i : Nat) ∧ fr 9 = .int .i64 (i : Nat) ∧ ∃ q : Int, fr 10 = .int .i64 q ∧ ((Live N R i ∧ ((∃ z : Nat, q = z ∧ k = rk z + 1 ∧ z < N.length ∧ Live N R z ∧ (An N.length up i y ↔ An N.length up z y)) ∨ (q = -1 ∧ k = 0 ∧ ¬ An N.length up i y))) ∨ (¬ Live N R i ∧ ((q = i ∧ k = rk i + 1) ∨ (q = -2 ∧ k = 0))))
        have hend : ∀ (fr : Frame), fr 1 = .int .i64 y → fr 2 = .ptr m.length 0 0 → fr 7 = v → fr 8 = .int .i64 (sumW N hl i + if hl i = true then wd N i else 0) → fr 22 = .int .i64 N.length → fr 23 = .int .i64 ((i + 1 : Nat) : Int) → ∃ j, j < N.length - i ∧ I j fr M := fun fr f1 f2 f7 f8 f22 f23 => ⟨N.length - (i + 1), by omega, i + 1, by omega, rfl, rfl, f1, f2, f7, by rw [hss]; exact f8, f22, f23⟩
        have hnl : ¬ Live N R i → hl i = false := fun h => by
          cases e : hl i with
          | false => rfl
          | true => exact absurd ((hhl i hil).1 e).1 h
        have hlv : Live N R i → (hl i = true ↔ An N.length up i y) := fun h => by
          rw [hhl i hil, (hu2 h).2.2 y hyn]
          exact ⟨fun h => h.2, fun g => ⟨h, g⟩⟩
        refine W_loop J ?_ (rk i + 1) ?_
        · clear f1 f2 f7 f8 f22 f23 fr
          rintro k fr M' ⟨rfl, f1, f2, f7, f8, f22, f23, f9, q, f10, hq⟩
          unfold graph_Retained_l1
          rcases hq with ⟨hl1, ⟨z, rfl, rfl, hzn, hzl, hz⟩ | ⟨rfl, rfl, hno⟩⟩ | ⟨hnl1, ⟨rfl, rfl⟩ | ⟨rfl, rfl⟩⟩
          · have c0 : (0 : Int) ≤ z := by omega
            have hne2 : ¬ hr i = -2 := by
              rcases (hu2 hl1).1 with ⟨_, e⟩ | ⟨_, e, _⟩ <;> omega
            by_cases hzy : (z : Int) = y
            · have hzy' : z = y := by omega
              subst hzy'
              have hh : hl i = true := (hlv hl1).2 (hz.2 (.refl _))
              rw [hh, hwe] at hend
              simp only [if_true] at hend
              simp (maxDischargeDepth := 30) only [f1, f2, f7, f8, f22, f23, f9, f10, c0, ixi, ldi, hne2, ldT2, ixn, ldn, ww, wi, amL, args0, Nat.reduceEqDiff, reduceCtorEq, ↓reduceIte, Nat.reduceAdd, resultsA, results1, Int.reduceNeg, splice, Nat.reduceLeDiff, part, fillA, fillE, Nat.reduceLT]
              exact hend _ (by simp (maxDischargeDepth := 30) only [f1, amL, args0, Nat.reduceEqDiff, reduceCtorEq, ↓reduceIte, Nat.reduceAdd, resultsA, results1, Int.reduceNeg, splice, Nat.reduceLeDiff, part, fillA, fillE, Nat.reduceLT]) (by simp (maxDischargeDepth := 30) only [f2, amL, args0, Nat.reduceEqDiff, reduceCtorEq, ↓reduceIte, Nat.reduceAdd, resultsA, results1, Int.reduceNeg, splice, Nat.reduceLeDiff, part, fillA, fillE, Nat.reduceLT]) (by simp (maxDischargeDepth := 30) only [f7, amL, args0, Nat.reduceEqDiff, reduceCtorEq, ↓reduceIte, Nat.reduceAdd, resultsA, results1, Int.reduceNeg, splice, Nat.reduceLeDiff, part, fillA, fillE, Nat.reduceLT]) (by simp (maxDischargeDepth := 30) only [amL, args0, Nat.reduceEqDiff, reduceCtorEq, ↓reduceIte, Nat.reduceAdd, resultsA, results1, Int.reduceNeg, splice, Nat.reduceLeDiff, part, fillA, fillE, Nat.reduceLT]) (by simp (maxDischargeDepth := 30) only [f22, amL, args0, Nat.reduceEqDiff, reduceCtorEq, ↓reduceIte, Nat.reduceAdd, resultsA, results1, Int.reduceNeg, splice, Nat.reduceLeDiff, part, fillA, fillE, Nat.reduceLT]) (by simp (maxDischargeDepth := 30) only [amL, args0, Nat.reduceEqDiff, reduceCtorEq, ↓reduceIte, Nat.reduceAdd, resultsA, results1, Int.reduceNeg, splice, Nat.reduceLeDiff, part, fillA, fillE, Nat.reduceLT])
            · have ixz := hsl.index (ki := .i64) (n := z) (by omega) (by rw [intF_len]; omega)
              have ldz := fun o k => hsl.load (o := o) (k := k) (intF_get hzn)
              simp only [Int.toNat_natCast] at ixz
              simp (maxDischargeDepth := 30) only [f1, f2, f7, f8, f22, f23, f9, f10, c0, hzy, ixz, ldz, amL, args0, Nat.reduceEqDiff, reduceCtorEq, ↓reduceIte, Nat.reduceAdd, resultsA, results1, Int.reduceNeg, splice, Nat.reduceLeDiff, part, fillA, fillE, Nat.reduceLT]
              obtain ⟨g1, g2, _⟩ := (hup z hzn).2 hzl
              have hzy2 : z ≠ y := fun e => hzy (by rw [e])
              rcases g1 with ⟨e1, e2⟩ | ⟨e1, e2, e3⟩
              · refine ⟨0, by omega, rfl, by simp (maxDischargeDepth := 30) only [f1, amL, args0, Nat.reduceEqDiff, reduceCtorEq, ↓reduceIte, Nat.reduceAdd, resultsA, results1, Int.reduceNeg, splice, Nat.reduceLeDiff, part, fillA, fillE, Nat.reduceLT], by simp (maxDischargeDepth := 30) only [f2, amL, args0, Nat.reduceEqDiff, reduceCtorEq, ↓reduceIte, Nat.reduceAdd, resultsA, results1, Int.reduceNeg, splice, Nat.reduceLeDiff, part, fillA, fillE, Nat.reduceLT], by simp (maxDischargeDepth := 30) only [f7, amL, args0, Nat.reduceEqDiff, reduceCtorEq, ↓reduceIte, Nat.reduceAdd, resultsA, results1, Int.reduceNeg, splice, Nat.reduceLeDiff, part, fillA, fillE, Nat.reduceLT], by simp (maxDischargeDepth := 30) only [f8, amL, args0, Nat.reduceEqDiff, reduceCtorEq, ↓reduceIte, Nat.reduceAdd, resultsA, results1, Int.reduceNeg, splice, Nat.reduceLeDiff, part, fillA, fillE, Nat.reduceLT], by simp (maxDischargeDepth := 30) only [f22, amL, args0, Nat.reduceEqDiff, reduceCtorEq, ↓reduceIte, Nat.reduceAdd, resultsA, results1, Int.reduceNeg, splice, Nat.reduceLeDiff, part, fillA, fillE, Nat.reduceLT], by simp (maxDischargeDepth := 30) only [f23, amL, args0, Nat.reduceEqDiff, reduceCtorEq, ↓reduceIte, Nat.reduceAdd, resultsA, results1, Int.reduceNeg, splice, Nat.reduceLeDiff, part, fillA, fillE, Nat.reduceLT], by simp (maxDischargeDepth := 30) only [f9, amL, args0, Nat.reduceEqDiff, reduceCtorEq, ↓reduceIte, Nat.reduceAdd, resultsA, results1, Int.reduceNeg, splice, Nat.reduceLeDiff, part, fillA, fillE, Nat.reduceLT], -1, by simp (maxDischargeDepth := 30) only [e2, amL, args0, Nat.reduceEqDiff, reduceCtorEq, ↓reduceIte, Nat.reduceAdd, resultsA, results1, Int.reduceNeg, splice, Nat.reduceLeDiff, part, fillA, fillE, Nat.reduceLT], .inl ⟨hl1, .inr ⟨rfl, rfl, fun g => ?_⟩⟩⟩
                rcases (hz.1 g).cases' with g3 | ⟨_, g3⟩
                · exact hzy2 g3
                · rw [e1] at g3
                  have := g3.first; omega
              · refine ⟨rk (up z) + 1, by omega, rfl, by simp (maxDischargeDepth := 30) only [f1, amL, args0, Nat.reduceEqDiff, reduceCtorEq, ↓reduceIte, Nat.reduceAdd, resultsA, results1, Int.reduceNeg, splice, Nat.reduceLeDiff, part, fillA, fillE, Nat.reduceLT], by simp (maxDischargeDepth := 30) only [f2, amL, args0, Nat.reduceEqDiff, reduceCtorEq, ↓reduceIte, Nat.reduceAdd, resultsA, results1, Int.reduceNeg, splice, Nat.reduceLeDiff, part, fillA, fillE, Nat.reduceLT], by simp (maxDischargeDepth := 30) only [f7, amL, args0, Nat.reduceEqDiff, reduceCtorEq, ↓reduceIte, Nat.reduceAdd, resultsA, results1, Int.reduceNeg, splice, Nat.reduceLeDiff, part, fillA, fillE, Nat.reduceLT], by simp (maxDischargeDepth := 30) only [f8, amL, args0, Nat.reduceEqDiff, reduceCtorEq, ↓reduceIte, Nat.reduceAdd, resultsA, results1, Int.reduceNeg, splice, Nat.reduceLeDiff, part, fillA, fillE, Nat.reduceLT], by simp (maxDischargeDepth := 30) only [f22, amL, args0, Nat.reduceEqDiff, reduceCtorEq, ↓reduceIte, Nat.reduceAdd, resultsA, results1, Int.reduceNeg, splice, Nat.reduceLeDiff, part, fillA, fillE, Nat.reduceLT], by simp (maxDischargeDepth := 30) only [f23, amL, args0, Nat.reduceEqDiff, reduceCtorEq, ↓reduceIte, Nat.reduceAdd, resultsA, results1, Int.reduceNeg, splice, Nat.reduceLeDiff, part, fillA, fillE, Nat.reduceLT], by simp (maxDischargeDepth := 30) only [f9, amL, args0, Nat.reduceEqDiff, reduceCtorEq, ↓reduceIte, Nat.reduceAdd, resultsA, results1, Int.reduceNeg, splice, Nat.reduceLeDiff, part, fillA, fillE, Nat.reduceLT], up z, by simp (maxDischargeDepth := 30) only [e2, amL, args0, Nat.reduceEqDiff, reduceCtorEq, ↓reduceIte, Nat.reduceAdd, resultsA, results1, Int.reduceNeg, splice, Nat.reduceLeDiff, part, fillA, fillE, Nat.reduceLT], .inl ⟨hl1, .inl ⟨up z, rfl, rfl, e1, e3, hz.trans ⟨fun g => ?_, fun g => .step hzn g⟩⟩⟩⟩
                rcases g.cases' with g3 | ⟨_, g3⟩
                · exact absurd g3 hzy2
                · exact g3
          · have c0 : ¬ (0 : Int) ≤ -1 := by decide
            have hh : hl i = false := by
              cases e : hl i with
              | false => rfl
              | true => exact absurd ((hlv hl1).1 e) hno
            rw [hh] at hend
            simp only [Bool.false_eq_true, if_false, Int.add_zero] at hend
            simp (maxDischargeDepth := 30) only [f1, f2, f7, f8, f22, f23, f9, f10, c0, wi, amL, args0, Nat.reduceEqDiff, reduceCtorEq, ↓reduceIte, Nat.reduceAdd, resultsA, results1, Int.reduceNeg, splice, Nat.reduceLeDiff, part, fillA, fillE, Nat.reduceLT]
            exact hend _ (by simp (maxDischargeDepth := 30) only [f1, amL, args0, Nat.reduceEqDiff, reduceCtorEq, ↓reduceIte, Nat.reduceAdd, resultsA, results1, Int.reduceNeg, splice, Nat.reduceLeDiff, part, fillA, fillE, Nat.reduceLT]) (by simp (maxDischargeDepth := 30) only [f2, amL, args0, Nat.reduceEqDiff, reduceCtorEq, ↓reduceIte, Nat.reduceAdd, resultsA, results1, Int.reduceNeg, splice, Nat.reduceLeDiff, part, fillA, fillE, Nat.reduceLT]) (by simp (maxDischargeDepth := 30) only [f7, amL, args0, Nat.reduceEqDiff, reduceCtorEq, ↓reduceIte, Nat.reduceAdd, resultsA, results1, Int.reduceNeg, splice, Nat.reduceLeDiff, part, fillA, fillE, Nat.reduceLT]) (by simp (maxDischargeDepth := 30) only [f8, amL, args0, Nat.reduceEqDiff, reduceCtorEq, ↓reduceIte, Nat.reduceAdd, resultsA, results1, Int.reduceNeg, splice, Nat.reduceLeDiff, part, fillA, fillE, Nat.reduceLT]) (by simp (maxDischargeDepth := 30) only [f22, amL, args0, Nat.reduceEqDiff, reduceCtorEq, ↓reduceIte, Nat.reduceAdd, resultsA, results1, Int.reduceNeg, splice, Nat.reduceLeDiff, part, fillA, fillE, Nat.reduceLT]) (by simp (maxDischargeDepth := 30) only [amL, args0, Nat.reduceEqDiff, reduceCtorEq, ↓reduceIte, Nat.reduceAdd, resultsA, results1, Int.reduceNeg, splice, Nat.reduceLeDiff, part, fillA, fillE, Nat.reduceLT])
          · have c0 : (0 : Int) ≤ i := by omega
            have he := hu1 hnl1
            have hne2 : ¬ ¬ hr i = -2 := fun e => e he
            by_cases hzy : (i : Int) = y
            · have hzy' : ((i : Int) = y) = True := eq_true hzy
              simp (maxDischargeDepth := 30) only [f1, f2, f7, f8, f22, f23, f9, f10, c0, hzy', ixi, ldi, hne2, amL, args0, Nat.reduceEqDiff, reduceCtorEq, ↓reduceIte, Nat.reduceAdd, resultsA, results1, Int.reduceNeg, splice, Nat.reduceLeDiff, part, fillA, fillE, Nat.reduceLT]
              exact ⟨0, by omega, rfl, by simp (maxDischargeDepth := 30) only [f1, amL, args0, Nat.reduceEqDiff, reduceCtorEq, ↓reduceIte, Nat.reduceAdd, resultsA, results1, Int.reduceNeg, splice, Nat.reduceLeDiff, part, fillA, fillE, Nat.reduceLT], by simp (maxDischargeDepth := 30) only [f2, amL, args0, Nat.reduceEqDiff, reduceCtorEq, ↓reduceIte, Nat.reduceAdd, resultsA, results1, Int.reduceNeg, splice, Nat.reduceLeDiff, part, fillA, fillE, Nat.reduceLT], by simp (maxDischargeDepth := 30) only [f7, amL, args0, Nat.reduceEqDiff, reduceCtorEq, ↓reduceIte, Nat.reduceAdd, resultsA, results1, Int.reduceNeg, splice, Nat.reduceLeDiff, part, fillA, fillE, Nat.reduceLT], by simp (maxDischargeDepth := 30) only [f8, amL, args0, Nat.reduceEqDiff, reduceCtorEq, ↓reduceIte, Nat.reduceAdd, resultsA, results1, Int.reduceNeg, splice, Nat.reduceLeDiff, part, fillA, fillE, Nat.reduceLT], by simp (maxDischargeDepth := 30) only [f22, amL, args0, Nat.reduceEqDiff, reduceCtorEq, ↓reduceIte, Nat.reduceAdd, resultsA, results1, Int.reduceNeg, splice, Nat.reduceLeDiff, part, fillA, fillE, Nat.reduceLT], by simp (maxDischargeDepth := 30) only [f23, amL, args0, Nat.reduceEqDiff, reduceCtorEq, ↓reduceIte, Nat.reduceAdd, resultsA, results1, Int.reduceNeg, splice, Nat.reduceLeDiff, part, fillA, fillE, Nat.reduceLT], by simp (maxDischargeDepth := 30) only [f9, amL, args0, Nat.reduceEqDiff, reduceCtorEq, ↓reduceIte, Nat.reduceAdd, resultsA, results1, Int.reduceNeg, splice, Nat.reduceLeDiff, part, fillA, fillE, Nat.reduceLT], -2, by simp (maxDischargeDepth := 30) only [he, amL, args0, Nat.reduceEqDiff, reduceCtorEq, ↓reduceIte, Nat.reduceAdd, resultsA, results1, Int.reduceNeg, splice, Nat.reduceLeDiff, part, fillA, fillE, Nat.reduceLT], .inr ⟨hnl1, .inr ⟨rfl, rfl⟩⟩⟩
            · simp (maxDischargeDepth := 30) only [f1, f2, f7, f8, f22, f23, f9, f10, c0, hzy, ixi, ldi, amL, args0, Nat.reduceEqDiff, reduceCtorEq, ↓reduceIte, Nat.reduceAdd, resultsA, results1, Int.reduceNeg, splice, Nat.reduceLeDiff, part, fillA, fillE, Nat.reduceLT]
              exact ⟨0, by omega, rfl, by simp (maxDischargeDepth := 30) only [f1, amL, args0, Nat.reduceEqDiff, reduceCtorEq, ↓reduceIte, Nat.reduceAdd, resultsA, results1, Int.reduceNeg, splice, Nat.reduceLeDiff, part, fillA, fillE, Nat.reduceLT], by simp (maxDischargeDepth := 30) only [f2, amL, args0, Nat.reduceEqDiff, reduceCtorEq, ↓reduceIte, Nat.reduceAdd, resultsA, results1, Int.reduceNeg, splice, Nat.reduceLeDiff, part, fillA, fillE, Nat.reduceLT], by simp (maxDischargeDepth := 30) only [f7, amL, args0, Nat.reduceEqDiff, reduceCtorEq, ↓reduceIte, Nat.reduceAdd, resultsA, results1, Int.reduceNeg, splice, Nat.reduceLeDiff, part, fillA, fillE, Nat.reduceLT], by simp (maxDischargeDepth := 30) only [f8, amL, args0, Nat.reduceEqDiff, reduceCtorEq, ↓reduceIte, Nat.reduceAdd, resultsA, results1, Int.reduceNeg, splice, Nat.reduceLeDiff, part, fillA, fillE, Nat.reduceLT], by simp (maxDischargeDepth := 30) only [f22, amL, args0, Nat.reduceEqDiff, reduceCtorEq, ↓reduceIte, Nat.reduceAdd, resultsA, results1, Int.reduceNeg, splice, Nat.reduceLeDiff, part, fillA, fillE, Nat.reduceLT], by simp (maxDischargeDepth := 30) only [f23, amL, args0, Nat.reduceEqDiff, reduceCtorEq, ↓reduceIte, Nat.reduceAdd, resultsA, results1, Int.reduceNeg, splice, Nat.reduceLeDiff, part, fillA, fillE, Nat.reduceLT], by simp (maxDischargeDepth := 30) only [f9, amL, args0, Nat.reduceEqDiff, reduceCtorEq, ↓reduceIte, Nat.reduceAdd, resultsA, results1, Int.reduceNeg, splice, Nat.reduceLeDiff, part, fillA, fillE, Nat.reduceLT], -2, by simp (maxDischargeDepth := 30) only [he, amL, args0, Nat.reduceEqDiff, reduceCtorEq, ↓reduceIte, Nat.reduceAdd, resultsA, results1, Int.reduceNeg, splice, Nat.reduceLeDiff, part, fillA, fillE, Nat.reduceLT], .inr ⟨hnl1, .inr ⟨rfl, rfl⟩⟩⟩
          · have c0 : ¬ (0 : Int) ≤ -2 := by decide
            rw [hnl hnl1] at hend
            simp only [Bool.false_eq_true, if_false, Int.add_zero] at hend
            simp (maxDischargeDepth := 30) only [f1, f2, f7, f8, f22, f23, f9, f10, c0, wi, amL, args0, Nat.reduceEqDiff, reduceCtorEq, ↓reduceIte, Nat.reduceAdd, resultsA, results1, Int.reduceNeg, splice, Nat.reduceLeDiff, part, fillA, fillE, Nat.reduceLT]
            exact hend _ (by simp (maxDischargeDepth := 30) only [f1, amL, args0, Nat.reduceEqDiff, reduceCtorEq, ↓reduceIte, Nat.reduceAdd, resultsA, results1, Int.reduceNeg, splice, Nat.reduceLeDiff, part, fillA, fillE, Nat.reduceLT]) (by simp (maxDischargeDepth := 30) only [f2, amL, args0, Nat.reduceEqDiff, reduceCtorEq, ↓reduceIte, Nat.reduceAdd, resultsA, results1, Int.reduceNeg, splice, Nat.reduceLeDiff, part, fillA, fillE, Nat.reduceLT]) (by simp (maxDischargeDepth := 30) only [f7, amL, args0, Nat.reduceEqDiff, reduceCtorEq, ↓reduceIte, Nat.reduceAdd, resultsA, results1, Int.reduceNeg, splice, Nat.reduceLeDiff, part, fillA, fillE, Nat.reduceLT]) (by simp (maxDischargeDepth := 30) only [f8, amL, args0, Nat.reduceEqDiff, reduceCtorEq, ↓reduceIte, Nat.reduceAdd, resultsA, results1, Int.reduceNeg, splice, Nat.reduceLeDiff, part, fillA, fillE, Nat.reduceLT]) (by simp (maxDischargeDepth := 30) only [f22, amL, args0, Nat.reduceEqDiff, reduceCtorEq, ↓reduceIte, Nat.reduceAdd, resultsA, results1, Int.reduceNeg, splice, Nat.reduceLeDiff, part, fillA, fillE, Nat.reduceLT]) (by simp (maxDischargeDepth := 30) only [amL, args0, Nat.reduceEqDiff, reduceCtorEq, ↓reduceIte, Nat.reduceAdd, resultsA, results1, Int.reduceNeg, splice, Nat.reduceLeDiff, part, fillA, fillE, Nat.reduceLT])
        · by_cases hli : Live N R i
          · exact ⟨rfl, by simp (maxDischargeDepth := 30) only [f1, amL, args0, Nat.reduceEqDiff, reduceCtorEq, ↓reduceIte, Nat.reduceAdd, resultsA, results1, Int.reduceNeg, splice, Nat.reduceLeDiff, part, fillA, fillE, Nat.reduceLT], by simp (maxDischargeDepth := 30) only [f2, amL, args0, Nat.reduceEqDiff, reduceCtorEq, ↓reduceIte, Nat.reduceAdd, resultsA, results1, Int.reduceNeg, splice, Nat.reduceLeDiff, part, fillA, fillE, Nat.reduceLT], by simp (maxDischargeDepth := 30) only [f7, amL, args0, Nat.reduceEqDiff, reduceCtorEq, ↓reduceIte, Nat.reduceAdd, resultsA, results1, Int.reduceNeg, splice, Nat.reduceLeDiff, part, fillA, fillE, Nat.reduceLT], by simp (maxDischargeDepth := 30) only [f8, amL, args0, Nat.reduceEqDiff, reduceCtorEq, ↓reduceIte, Nat.reduceAdd, resultsA, results1, Int.reduceNeg, splice, Nat.reduceLeDiff, part, fillA, fillE, Nat.reduceLT], by simp (maxDischargeDepth := 30) only [f22, amL, args0, Nat.reduceEqDiff, reduceCtorEq, ↓reduceIte, Nat.reduceAdd, resultsA, results1, Int.reduceNeg, splice, Nat.reduceLeDiff, part, fillA, fillE, Nat.reduceLT], by simp (maxDischargeDepth := 30) only [f23, amL, args0, Nat.reduceEqDiff, reduceCtorEq, ↓reduceIte, Nat.reduceAdd, resultsA, results1, Int.reduceNeg, splice, Nat.reduceLeDiff, part, fillA, fillE, Nat.reduceLT], by simp (maxDischargeDepth := 30) only [amL, args0, Nat.reduceEqDiff, reduceCtorEq, ↓reduceIte, Nat.reduceAdd, resultsA, results1, Int.reduceNeg, splice, Nat.reduceLeDiff, part, fillA, fillE, Nat.reduceLT], i, by simp (maxDischargeDepth := 30) only [amL, args0, Nat.reduceEqDiff, reduceCtorEq, ↓reduceIte, Nat.reduceAdd, resultsA, results1, Int.reduceNeg, splice, Nat.reduceLeDiff, part, fillA, fillE, Nat.reduceLT], .inl ⟨hli, .inl ⟨i, rfl, rfl, hil, hli, Iff.rfl⟩⟩⟩
          · exact ⟨rfl, by simp (maxDischargeDepth := 30) only [f1, amL, args0, Nat.reduceEqDiff, reduceCtorEq, ↓reduceIte, Nat.reduceAdd, resultsA, results1, Int.reduceNeg, splice, Nat.reduceLeDiff, part, fillA, fillE, Nat.reduceLT], by simp (maxDischargeDepth := 30) only [f2, amL, args0, Nat.reduceEqDiff, reduceCtorEq, ↓reduceIte, Nat.reduceAdd, resultsA, results1, Int.reduceNeg, splice, Nat.reduceLeDiff, part, fillA, fillE, Nat.reduceLT], by simp (maxDischargeDepth := 30) only [f7, amL, args0, Nat.reduceEqDiff, reduceCtorEq, ↓reduceIte, Nat.reduceAdd, resultsA, results1, Int.reduceNeg, splice, Nat.reduceLeDiff, part, fillA, fillE, Nat.reduceLT], by simp (maxDischargeDepth := 30) only [f8, amL, args0, Nat.reduceEqDiff, reduceCtorEq, ↓reduceIte, Nat.reduceAdd, resultsA, results1, Int.reduceNeg, splice, Nat.reduceLeDiff, part, fillA, fillE, Nat.reduceLT], by simp (maxDischargeDepth := 30) only [f22, amL, args0, Nat.reduceEqDiff, reduceCtorEq, ↓reduceIte, Nat.reduceAdd, resultsA, results1, Int.reduceNeg, splice, Nat.reduceLeDiff, part, fillA, fillE, Nat.reduceLT], by simp (maxDischargeDepth := 30) only [f23, amL, args0, Nat.reduceEqDiff, reduceCtorEq, ↓reduceIte, Nat.reduceAdd, resultsA, results1, Int.reduceNeg, splice, Nat.reduceLeDiff, part, fillA, fillE, Nat.reduceLT], by simp (maxDischargeDepth := 30) only [amL, args0, Nat.reduceEqDiff, reduceCtorEq, ↓reduceIte, Nat.reduceAdd, resultsA, results1, Int.reduceNeg, splice, Nat.reduceLeDiff, part, fillA, fillE, Nat.reduceLT], i, by simp (maxDischargeDepth := 30) only [amL, args0, Nat.reduceEqDiff, reduceCtorEq, ↓reduceIte, Nat.reduceAdd, resultsA, results1, Int.reduceNeg, splice, Nat.reduceLeDiff, part, fillA, fillE, Nat.reduceLT], .inr ⟨hli, .inl ⟨rfl, rfl⟩⟩⟩
      · have hil' : ¬ (i : Int) < N.length := by omega
        have hie : i = N.length := by omega
        rw [hie] at f8
        simp (maxDischargeDepth := 30) only [hil', f1, f2, f7, f8, f22, f23, amL, args0, Nat.reduceEqDiff, reduceCtorEq, ↓reduceIte, Nat.reduceAdd, resultsA, results1, Int.reduceNeg, splice, Nat.reduceLeDiff, part, fillA, fillE, Nat.reduceLT]
        exact hgm2
    · exact ⟨0, Nat.zero_le _, rfl, rfl, by simp (maxDischargeDepth := 30) only [amL, args0, Nat.reduceEqDiff, reduceCtorEq, ↓reduceIte, Nat.reduceAdd, resultsA, results1, Int.reduceNeg, splice, Nat.reduceLeDiff, part, fillA, fillE, Nat.reduceLT], by simp (maxDischargeDepth := 30) only [amL, args0, Nat.reduceEqDiff, reduceCtorEq, ↓reduceIte, Nat.reduceAdd, resultsA, results1, Int.reduceNeg, splice, Nat.reduceLeDiff, part, fillA, fillE, Nat.reduceLT], by simp (maxDischargeDepth := 30) only [amL, args0, Nat.reduceEqDiff, reduceCtorEq, ↓reduceIte, Nat.reduceAdd, resultsA, results1, Int.reduceNeg, splice, Nat.reduceLeDiff, part, fillA, fillE, Nat.reduceLT], by simp (maxDischargeDepth := 30) only [amL, args0, Nat.reduceEqDiff, reduceCtorEq, ↓reduceIte, Nat.reduceAdd, resultsA, results1, Int.reduceNeg, splice, Nat.reduceLeDiff, part, fillA, fillE, Nat.reduceLT]; rfl, by simp (maxDischargeDepth := 30) only [amL, args0, Nat.reduceEqDiff, reduceCtorEq, ↓reduceIte, Nat.reduceAdd, resultsA, results1, Int.reduceNeg, splice, Nat.reduceLeDiff, part, fillA, fillE, Nat.reduceLT], by simp (maxDischargeDepth := 30) only [amL, args0, Nat.reduceEqDiff, reduceCtorEq, ↓reduceIte, Nat.reduceAdd, resultsA, results1, Int.reduceNeg, splice, Nat.reduceLeDiff, part, fillA, fillE, Nat.reduceLT]; rfl⟩
end Go.AM.G
