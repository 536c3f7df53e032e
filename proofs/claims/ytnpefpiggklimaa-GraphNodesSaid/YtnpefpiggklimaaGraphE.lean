/- Part of the proof: contracts of functions of the given program on an abstract machine. -/
import Derived.Test.YtnpefpiggklimaaGraphC
set_option linter.unusedVariables false
set_option linter.unusedSimpArgs false
set_option maxRecDepth 100000
namespace Go.AM.G
open Go Go.AM
theorem visit_spec {m M0 : Mem} {B : Nat} {nv rv : V} {N : List NodeA} {R : List Int} {s0 : TS} {sv0 : V} {p : Nat} (hm : m.length ≤ B) (hG : Gr m nv rv N R) (hf : Fits N R) (hval : validG N R = true) (hTM : TM B M0 nv rv N.length s0 sv0) (hg : Grow m M0) (hI : Inv (toN N) N.length s0) (hcs : s0.calls = []) (hun : s0.next + un N.length s0 ≤ N.length) (hp : p < N.length) (h0 : s0.ix p = 0) :
    C S n_graph_tarjan_visit [.ptr (B + 5) 0 0, .int .i64 p] M0 (fun _ M => ∃ s sv, TM B M nv rv N.length s sv ∧ Inv (toN N) N.length s ∧ s.calls = [] ∧ (∀ q, s0.ix q ≠ 0 ∨ q = p → s.ix q ≠ 0) ∧ s.next + un N.length s ≤ N.length ∧ Grow m M) := by
  obtain ⟨hn, _⟩ := valid_to hval
  obtain ⟨hst, _⟩ := inv_end hI hcs
  have hue := un_enter hp h0 (enterT s0 p) rfl
  refine C_body rfl rfl rfl ?_
  unfold graph_tarjan_visit
  simp (maxDischargeDepth := 30) only [amL, args0, Nat.reduceEqDiff, reduceCtorEq, ↓reduceIte, Nat.reduceAdd, resultsA, results1, Int.reduceNeg, splice, Nat.reduceLeDiff, part, fillA, fillE, Nat.reduceLT]
  refine (enter_spec hTM hp hn (by omega) (by rw [hst]; simp; omega)).mono ?_
  rintro _ M1 ⟨rfl, sv1, h1, hb1, hk1, hl1⟩
  have hg1 : Grow m M1 := Grow.keep' hg fun x y hx hy => hk1 x y (.inl (by omega)) hy
  simp (maxDischargeDepth := 30) only [aft_mk, amL, args0, Nat.reduceEqDiff, reduceCtorEq, ↓reduceIte, Nat.reduceAdd, resultsA, results1, Int.reduceNeg, splice, Nat.reduceLeDiff, part, fillA, fillE, Nat.reduceLT]
  have hB1 := h1.len
  have hi1 := inv_enter (s := s0) hI hp h0 (fun c i rest e => by rw [hcs] at e; cases e)
  have hcl1 : (enterT s0 p).calls = [(p, 0)] := by show (p, 0) :: s0.calls = _; rw [hcs]
  have hix1 : (enterT s0 p).ix = upd s0.ix p (s0.next + 1) := rfl
  have hsvb : ∀ c, blkOf sv1 = some c → c < M1.length := fun c hc => (h1.St.blk hc).2
  refine W_block.1 (visit_loop (m := m) (B := B) (N := N) (R := R) (s0 := enterT s0 p) (sv0 := sv1) (cv0 := .slice M1.length 0 1 1 true 2) hm hG hf hval (by simp (maxDischargeDepth := 30) only [amL, args0, Nat.reduceEqDiff, reduceCtorEq, ↓reduceIte, Nat.reduceAdd, resultsA, results1, Int.reduceNeg, splice, Nat.reduceLeDiff, part, fillA, fillE, Nat.reduceLT]) (by simp (maxDischargeDepth := 30) only [amL, args0, Nat.reduceEqDiff, reduceCtorEq, ↓reduceIte, Nat.reduceAdd, resultsA, results1, Int.reduceNeg, splice, Nat.reduceLeDiff, part, fillA, fillE, Nat.reduceLT]) ⟨h1.app.congr rfl rfl rfl rfl rfl rfl, ?_, ?_, hg1.app⟩ hi1 (by show s0.next + 1 + _ ≤ _; omega) ?_)
  · rw [hcl1]
    exact .inr ⟨M1.length, true, [[V.int .i64 (p : Int), V.int .i64 0]], hB1, rfl, by simp, rfl⟩
  · intro c hc e
    have := hsvb c e
    simp only [blkOf, Option.some.injEq] at hc
    omega
  · intro fr M s sv hTM2 hI2 hc2 hmono hun2 hg2
    simp (maxDischargeDepth := 30) only [amL, args0, Nat.reduceEqDiff, reduceCtorEq, ↓reduceIte, Nat.reduceAdd, resultsA, results1, Int.reduceNeg, splice, Nat.reduceLeDiff, part, fillA, fillE, Nat.reduceLT]
    refine ⟨s, sv, hTM2, hI2, hc2, fun q hq => hmono q ?_, hun2, hg2⟩
    rw [hix1]
    by_cases e : q = p
    · rw [e, upd_self]; omega
    · rw [upd_ne e]; exact hq.resolve_right e
theorem setk {M L : Mem} {k : Nat} {x : Blk} : (M ++ L).set (M.length + k) x = M ++ L.set k x := by
  rw [List.set_append_right _ _ (by omega)]; congr 2; omega
theorem setk0 {M L : Mem} {x : Blk} : (M ++ L).set M.length x = M ++ L.set 0 x := by
  rw [List.set_append_right _ _ (by omega)]; congr 2; omega
theorem getk {M L : Mem} {k : Nat} : (M ++ L)[M.length + k]? = L[k]? := by
  rw [List.getElem?_append_right (by omega)]; congr 1; omega
theorem getk0 {M L : Mem} : (M ++ L)[M.length]? = L[0]? := by
  rw [List.getElem?_append_right (by omega)]; congr 1; omega
theorem natF_zero {n : Nat} : List.replicate n [V.int .i64 0] = natF n (fun _ => 0) := by
  apply List.ext_getElem?
  intro i
  by_cases h : i < n
  · rw [natF_get h]; simp [h]
  · rw [List.getElem?_eq_none (by simp; omega), List.getElem?_eq_none (by rw [natF_len]; omega)]
theorem boolF_zero {n : Nat} : List.replicate n [V.bool false] = boolF n (fun _ => false) := by
  apply List.ext_getElem?
  intro i
  by_cases h : i < n
  · rw [boolF_get h]; simp [h]
  · rw [List.getElem?_eq_none (by simp; omega), List.getElem?_eq_none (by rw [boolF_len]; omega)]
theorem un_start (n : Nat) (s : TS) (h : s.ix = fun _ => 0) : un n s = n := by
  unfold un
  rw [h]
  simp only [if_true]
  have : ∀ k : Nat, ((List.range k).map fun _ => 1).sum = k := by
    intro k
    induction k with
    | zero => rfl
    | succ k ih => rw [List.range_succ, List.map_append, List.sum_append, ih]; rfl
  exact this n
theorem Parts_spec {m : Mem} {nv rv : V} {N : List NodeA} {R : List Int} (hG : Gr m nv rv N R) (hf : Fits N R) : C S n_graph_Parts [.agg [nv, rv]] m (fun r m' => Grow m m' ∧ ((validG N R = false ∧ r = .tup [.nils, .int .i64 2]) ∨ (validG N R = true ∧ ∃ pv parts, r = .tup [pv, .int .i64 0] ∧ Sl m' pv 1 (natF N.length parts) ∧ ∀ p, p < N.length → IsPart (toN N) p (parts p)))) := by
  refine C_body rfl rfl rfl ?_
  unfold graph_Parts
  obtain ⟨hc1, hc2⟩ := hG.cells
  simp (maxDischargeDepth := 30) only [hc1, hc2, amL, args0, Nat.reduceEqDiff, reduceCtorEq, ↓reduceIte, Nat.reduceAdd, resultsA, results1, Int.reduceNeg, splice, Nat.reduceLeDiff, part, fillA, fillE, Nat.reduceLT]
  refine (Check_spec (hG.grow (Grow.refl _).app) hf).mono ?_
  rintro _ M1 ⟨rfl, hg1⟩
  have hgm1 : Grow m M1 := (Grow.refl m).app.trans hg1
  have hT1 : M1[m.length]? = some (.cells true [[nv, rv]]) := hg1.get (by simp)
  cases hval : validG N R with
  | false =>
    have c2 : ¬ (2 : Int) = 0 := by decide
    simp (maxDischargeDepth := 30) only [aft_mk, c2, Bool.false_eq_true, amL, args0, Nat.reduceEqDiff, reduceCtorEq, ↓reduceIte, Nat.reduceAdd, resultsA, results1, Int.reduceNeg, splice, Nat.reduceLeDiff, part, fillA, fillE, Nat.reduceLT]
    exact ⟨hgm1, .inl trivial⟩
  | true =>
    obtain ⟨hn, hto, hlt, _, _, _⟩ := valid_to hval
    obtain ⟨_, els, hne, hel, hnds⟩ := hG.grow hgm1
    have c00 : ¬ ¬ (0 : Int) = 0 := by omega
    have ldT1 := fun j k => load_at0 (k := k) (j := j) hT1
    have rm : 0 ≤ (N.length : Int) ∧ (N.length : Int) ≤ N.length ∧ roomy (N.length : Int).toNat 8 = true := by simp [roomy]; omega
    have rm1 : 0 ≤ (N.length : Int) ∧ (N.length : Int) ≤ N.length ∧ roomy (N.length : Int).toNat 1 = true := by simp [roomy]; omega
    have rm' : roomy N.length 8 = true := by simpa using rm.2.2
    have rm1' : roomy N.length 1 = true := by simpa using rm1.2.2
    have r6 : List.replicate 6 Blk.dead = [Blk.dead, .dead, .dead, .dead, .dead, .dead] := rfl
    have ldT1g : ∀ g j k, loadV (M1 ++ g) k (.ptr m.length 0 j) = part [nv, rv] j k := fun g j k => load_at0 (getElem?_grow hT1)
    simp (maxDischargeDepth := 30) only [aft_mk, c00, ldT1, hne.len, hel, r6, ldT1g, hc1, hc2, getk, getk0, setk, setk0, rm, rm1, rm', rm1', amL, args0, Nat.reduceEqDiff, reduceCtorEq, ↓reduceIte, Nat.reduceAdd, resultsA, results1, Int.reduceNeg, splice, Nat.reduceLeDiff, part, fillA, fillE, Nat.reduceLT]
    rw [natF_zero, boolF_zero]
    generalize hB : M1.length = B
    generalize hM2 : M1 ++ [Blk.cells true [[nv, rv]], Blk.cells true (natF N.length fun _ => 0), Blk.cells true (natF N.length fun _ => 0), Blk.cells true (boolF N.length fun _ => false), Blk.cells true (natF N.length fun _ => 0), Blk.cells true [[V.ptr B 0 0, V.slice (B + 1) 0 N.length N.length true 1, V.slice (B + 2) 0 N.length N.length true 1, V.nils, V.slice (B + 3) 0 N.length N.length true 1, V.slice (B + 4) 0 N.length N.length true 1, V.int .i64 0]]] = M2
    have hgm2 : Grow m M2 := by rw [← hM2]; exact hgm1.app
    have hmB : m.length ≤ B := by rw [← hB]; exact hgm1.len
    have hTM : TM B M2 nv rv N.length ⟨fun _ => 0, fun _ => 0, fun _ => false, fun _ => 0, [], 0, []⟩ .nils := by
      rw [← hM2, ← hB]
      exact ⟨getk, getk0, getk, getk, getk, getk, .inl ⟨rfl, rfl⟩⟩
    let J := fun (k : Nat) (fr : Frame) (M : Mem) => ∃ i s sv, i ≤ N.length ∧ k = N.length - i ∧ fr 6 = .ptr (B + 5) 0 0 ∧ fr 29 = .int .i64 N.length ∧ fr 30 = .int .i64 i ∧ TM B M nv rv N.length s sv ∧ Inv (toN N) N.length s ∧ s.calls = [] ∧ s.next + un N.length s ≤ N.length ∧ Grow m M ∧ ∀ q, q < i → s.ix q ≠ 0
    refine W_loop J ?_ N.length ?_
    · rintro k fr M ⟨i, s, sv, hi, rfl, f6, f29, f30, hTM, hI, hcs, hun, hg, hseen⟩
      unfold graph_Parts_l0
      simp (maxDischargeDepth := 30) only [f6, f29, f30, amL, args0, Nat.reduceEqDiff, reduceCtorEq, ↓reduceIte, Nat.reduceAdd, resultsA, results1, Int.reduceNeg, splice, Nat.reduceLeDiff, part, fillA, fillE, Nat.reduceLT]
      have ldT := fun j k => load_at0 (k := k) (j := j) hTM.T
      first | (refine O_split (by simp only [put_apply, Nat.reduceEqDiff, ↓reduceIte, reduceCtorEq]; rfl) (fun h => ?_) (fun h => ?_) <;> simp only [decide_eq_true_eq, decide_eq_false_iff_not, Decidable.not_not, Bool.and_eq_true, Bool.not_eq_true', Bool.not_eq_false'] at h) | (refine W_split (by simp only [get_t, put_apply, Nat.reduceEqDiff, ↓reduceIte, reduceCtorEq]; rfl) (fun h => ?_) (fun h => ?_) <;> simp only [decide_eq_true_eq, decide_eq_false_iff_not, Decidable.not_not, Bool.and_eq_true, Bool.not_eq_true', Bool.not_eq_false'] at h)
      · have hil : i < N.length := by omega
        have ixI := hTM.slI.index (ki := .i64) (n := i) (by omega) (by rw [natF_len]; omega)
        have ldI := fun o k => hTM.slI.load (o := o) (k := k) (natF_get hil)
        simp only [Int.toNat_natCast] at ixI
        have w1 : IntKind.i64.wrap ((i : Int) + 1) = ((i + 1 : Nat) : Int) := by rw [wrap_i64] <;> omega
        by_cases h0 : s.ix i = 0
        · have h0' : (((s.ix i : Nat) : Int) = 0) = True := eq_true (by omega)
          simp (maxDischargeDepth := 30) only [h, f6, f29, f30, ldT, ixI, ldI, h0', amL, args0, Nat.reduceEqDiff, reduceCtorEq, ↓reduceIte, Nat.reduceAdd, resultsA, results1, Int.reduceNeg, splice, Nat.reduceLeDiff, part, fillA, fillE, Nat.reduceLT]
          refine (visit_spec hmB hG hf hval hTM hg hI hcs hun hil h0).mono ?_
          rintro _ M' ⟨s', sv', hTM', hI', hcs', hmono, hun', hg'⟩
          simp (maxDischargeDepth := 30) only [aft_mk, f6, f29, f30, w1, amL, args0, Nat.reduceEqDiff, reduceCtorEq, ↓reduceIte, Nat.reduceAdd, resultsA, results1, Int.reduceNeg, splice, Nat.reduceLeDiff, part, fillA, fillE, Nat.reduceLT]
          refine ⟨_, ?_, i + 1, s', sv', by omega, rfl, ?_, ?_, ?_, hTM', hI', hcs', hun', hg', fun q hq => hmono q ?_⟩
          · omega
          · simp (maxDischargeDepth := 30) only [f6, amL, args0, Nat.reduceEqDiff, reduceCtorEq, ↓reduceIte, Nat.reduceAdd, resultsA, results1, Int.reduceNeg, splice, Nat.reduceLeDiff, part, fillA, fillE, Nat.reduceLT]
          · simp (maxDischargeDepth := 30) only [f29, amL, args0, Nat.reduceEqDiff, reduceCtorEq, ↓reduceIte, Nat.reduceAdd, resultsA, results1, Int.reduceNeg, splice, Nat.reduceLeDiff, part, fillA, fillE, Nat.reduceLT]
          · simp (maxDischargeDepth := 30) only [amL, args0, Nat.reduceEqDiff, reduceCtorEq, ↓reduceIte, Nat.reduceAdd, resultsA, results1, Int.reduceNeg, splice, Nat.reduceLeDiff, part, fillA, fillE, Nat.reduceLT]
          · by_cases e : q = i
            · exact .inr e
            · exact .inl (hseen q (by omega))
        · have h0' : ¬ ((s.ix i : Nat) : Int) = 0 := by omega
          simp (maxDischargeDepth := 30) only [h, f6, f29, f30, ldT, ixI, ldI, h0', w1, amL, args0, Nat.reduceEqDiff, reduceCtorEq, ↓reduceIte, Nat.reduceAdd, resultsA, results1, Int.reduceNeg, splice, Nat.reduceLeDiff, part, fillA, fillE, Nat.reduceLT]
          refine ⟨_, ?_, i + 1, s, sv, by omega, rfl, ?_, ?_, ?_, hTM, hI, hcs, hun, hg, fun q hq => ?_⟩
          · omega
          · simp (maxDischargeDepth := 30) only [f6, amL, args0, Nat.reduceEqDiff, reduceCtorEq, ↓reduceIte, Nat.reduceAdd, resultsA, results1, Int.reduceNeg, splice, Nat.reduceLeDiff, part, fillA, fillE, Nat.reduceLT]
          · simp (maxDischargeDepth := 30) only [f29, amL, args0, Nat.reduceEqDiff, reduceCtorEq, ↓reduceIte, Nat.reduceAdd, resultsA, results1, Int.reduceNeg, splice, Nat.reduceLeDiff, part, fillA, fillE, Nat.reduceLT]
          · simp (maxDischargeDepth := 30) only [amL, args0, Nat.reduceEqDiff, reduceCtorEq, ↓reduceIte, Nat.reduceAdd, resultsA, results1, Int.reduceNeg, splice, Nat.reduceLeDiff, part, fillA, fillE, Nat.reduceLT]
          · by_cases e : q = i
            · rw [e]; exact h0
            · exact hseen q (by omega)
      · have hii : i = N.length := by omega
        subst hii
        simp (maxDischargeDepth := 30) only [h, f6, f29, f30, ldT, amL, args0, Nat.reduceEqDiff, reduceCtorEq, ↓reduceIte, Nat.reduceAdd, resultsA, results1, Int.reduceNeg, splice, Nat.reduceLeDiff, part, fillA, fillE, Nat.reduceLT]
        exact ⟨hg, .inr ⟨_, s.parts, rfl, hTM.slP, fun p hp => (inv_end hI hcs).2 p (hseen p hp)⟩⟩
    · refine ⟨0, _, _, Nat.zero_le _, rfl, by simp (maxDischargeDepth := 30) only [hB, amL, args0, Nat.reduceEqDiff, reduceCtorEq, ↓reduceIte, Nat.reduceAdd, resultsA, results1, Int.reduceNeg, splice, Nat.reduceLeDiff, part, fillA, fillE, Nat.reduceLT], by simp (maxDischargeDepth := 30) only [amL, args0, Nat.reduceEqDiff, reduceCtorEq, ↓reduceIte, Nat.reduceAdd, resultsA, results1, Int.reduceNeg, splice, Nat.reduceLeDiff, part, fillA, fillE, Nat.reduceLT], by simp (maxDischargeDepth := 30) only [amL, args0, Nat.reduceEqDiff, reduceCtorEq, ↓reduceIte, Nat.reduceAdd, resultsA, results1, Int.reduceNeg, splice, Nat.reduceLeDiff, part, fillA, fillE, Nat.reduceLT]; rfl, hTM, inv_start (toN N) N.length, rfl, ?_, hgm2, fun q hq => absurd hq (Nat.not_lt_zero _)⟩
      rw [un_start _ _ rfl]; simp
end Go.AM.G
