/- Part of the proof: contracts of functions of the given program on an abstract machine. -/
import Derived.Test.YtnpefpiggklimaaGraphX
set_option linter.unusedVariables false
set_option linter.unusedSimpArgs false
set_option maxRecDepth 100000
namespace Go.AM.G
open Go Go.AM
def reachedL (far : Nat → Int) (n : Nat) : List Nat := (List.range n).filter fun p => decide (0 ≤ far p)
theorem reachedL_succ {far : Nat → Int} {n : Nat} : reachedL far (n + 1) = reachedL far n ++ (if 0 ≤ far n then [n] else []) := by
  unfold reachedL
  rw [List.range_succ, List.filter_append]
  congr 1
  by_cases h : 0 ≤ far n <;> simp [h]
theorem reachedL_len {far : Nat → Int} {n : Nat} : (reachedL far n).length ≤ n := by
  have := List.length_filter_le (fun p => decide (0 ≤ far p)) (List.range n)
  simpa [reachedL] using this
theorem mem_reachedL {far : Nat → Int} {n p : Nat} : p ∈ reachedL far n ↔ p < n ∧ 0 ≤ far p := by simp [reachedL]
theorem reached_spec {m : Mem} {v : V} {n : Nat} {far : Nat → Int} (hv : Sl m v 1 (intF n far)) (hn : n ≤ 4096) : C S n_graph_reached [v] m (fun r m' => Grow m m' ∧ Sl m' r 1 (nats (reachedL far n))) := by
  refine C_body rfl rfl rfl ?_
  unfold graph_reached
  simp (maxDischargeDepth := 30) only [hv.len, intF_len, amL, args0, Nat.reduceEqDiff, reduceCtorEq, ↓reduceIte, Nat.reduceAdd, resultsA, results1, Int.reduceNeg, splice, Nat.reduceLeDiff, part, fillA, fillE, Nat.reduceLT]
  let I := fun (k : Nat) (fr : Frame) (M : Mem) => ∃ i u, i ≤ n ∧ k = n - i ∧ fr 3 = u ∧ fr 6 = v ∧ fr 7 = .int .i64 n ∧ fr 8 = .int .i64 (i : Nat) ∧ GS m.length M u 1 (nats (reachedL far i)) ∧ Grow m M
  refine W_loop I ?_ n ?_
  · rintro k fr M ⟨i, u, hi, rfl, f3, f6, f7, f8, hgs, hg⟩
    unfold graph_reached_l0
    simp (maxDischargeDepth := 30) only [f3, f6, f7, f8, amL, args0, Nat.reduceEqDiff, reduceCtorEq, ↓reduceIte, Nat.reduceAdd, resultsA, results1, Int.reduceNeg, splice, Nat.reduceLeDiff, part, fillA, fillE, Nat.reduceLT]
    first | (refine O_split (by simp only [put_apply, Nat.reduceEqDiff, ↓reduceIte, reduceCtorEq]; rfl) (fun h => ?_) (fun h => ?_) <;> simp only [decide_eq_true_eq, decide_eq_false_iff_not, Decidable.not_not, Bool.and_eq_true, Bool.not_eq_true', Bool.not_eq_false'] at h) | (refine W_split (by simp only [get_t, put_apply, Nat.reduceEqDiff, ↓reduceIte, reduceCtorEq]; rfl) (fun h => ?_) (fun h => ?_) <;> simp only [decide_eq_true_eq, decide_eq_false_iff_not, Decidable.not_not, Bool.and_eq_true, Bool.not_eq_true', Bool.not_eq_false'] at h)
    · have hil : i < n := by omega
      have hvM := hv.grow hg
      have ix := hvM.index (ki := .i64) (n := i) (by omega) (by rw [intF_len]; omega)
      have ld := fun o k => hvM.load (o := o) (k := k) (intF_get hil)
      simp only [Int.toNat_natCast] at ix
      have w1 : IntKind.i64.wrap ((i : Int) + 1) = ((i + 1 : Nat) : Int) := by rw [wrap_i64] <;> omega
      have hs := reachedL_succ (far := far) (n := i)
      by_cases hf : 0 ≤ far i
      · rw [if_pos hf] at hs
        have hrl := reachedL_len (far := far) (n := i)
        have hml := hg.len
        obtain ⟨u', M', p1, p2, p3, p4, p5⟩ := (hgs.app (g := [Blk.cells true [[V.int .i64 (i : Int)]]])).push (T := M.length) (own := true) (x := [V.int .i64 (i : Int)]) (zero := [.int .i64 0]) (bytes := 8) rfl (by simp) (by simp [roomy]; omega) (by simp; omega)
        simp (maxDischargeDepth := 30) only [h, f3, f6, f7, f8, ix, ld, hf, amL, args0, Nat.reduceEqDiff, reduceCtorEq, ↓reduceIte, Nat.reduceAdd, resultsA, results1, Int.reduceNeg, splice, Nat.reduceLeDiff, part, fillA, fillE, Nat.reduceLT]
        refine ⟨_, _, p1, ?_⟩
        simp (maxDischargeDepth := 30) only [f6, f7, f8, w1, amL, args0, Nat.reduceEqDiff, reduceCtorEq, ↓reduceIte, Nat.reduceAdd, resultsA, results1, Int.reduceNeg, splice, Nat.reduceLeDiff, part, fillA, fillE, Nat.reduceLT]
        refine ⟨_, ?_, i + 1, u', by omega, rfl, ?_, ?_, ?_, ?_, ?_, Grow.keep' hg.app fun c y hc hy => p3 c y (fun e => by have := (hgs.blk e).1; omega) hy⟩
        · omega
        · simp (maxDischargeDepth := 30) only [amL, args0, Nat.reduceEqDiff, reduceCtorEq, ↓reduceIte, Nat.reduceAdd, resultsA, results1, Int.reduceNeg, splice, Nat.reduceLeDiff, part, fillA, fillE, Nat.reduceLT]
        · simp (maxDischargeDepth := 30) only [f6, amL, args0, Nat.reduceEqDiff, reduceCtorEq, ↓reduceIte, Nat.reduceAdd, resultsA, results1, Int.reduceNeg, splice, Nat.reduceLeDiff, part, fillA, fillE, Nat.reduceLT]
        · simp (maxDischargeDepth := 30) only [f7, amL, args0, Nat.reduceEqDiff, reduceCtorEq, ↓reduceIte, Nat.reduceAdd, resultsA, results1, Int.reduceNeg, splice, Nat.reduceLeDiff, part, fillA, fillE, Nat.reduceLT]
        · simp (maxDischargeDepth := 30) only [amL, args0, Nat.reduceEqDiff, reduceCtorEq, ↓reduceIte, Nat.reduceAdd, resultsA, results1, Int.reduceNeg, splice, Nat.reduceLeDiff, part, fillA, fillE, Nat.reduceLT]
        · rw [hs]
          have : nats (reachedL far i ++ [i]) = nats (reachedL far i) ++ [[V.int .i64 (i : Int)]] := by simp
          rw [this]; exact p2
      · rw [if_neg hf, List.append_nil] at hs
        simp (maxDischargeDepth := 30) only [h, f3, f6, f7, f8, ix, ld, hf, w1, amL, args0, Nat.reduceEqDiff, reduceCtorEq, ↓reduceIte, Nat.reduceAdd, resultsA, results1, Int.reduceNeg, splice, Nat.reduceLeDiff, part, fillA, fillE, Nat.reduceLT]
        refine ⟨_, ?_, i + 1, u, by omega, rfl, ?_, ?_, ?_, ?_, ?_, hg⟩
        · omega
        · simp (maxDischargeDepth := 30) only [f3, amL, args0, Nat.reduceEqDiff, reduceCtorEq, ↓reduceIte, Nat.reduceAdd, resultsA, results1, Int.reduceNeg, splice, Nat.reduceLeDiff, part, fillA, fillE, Nat.reduceLT]
        · simp (maxDischargeDepth := 30) only [f6, amL, args0, Nat.reduceEqDiff, reduceCtorEq, ↓reduceIte, Nat.reduceAdd, resultsA, results1, Int.reduceNeg, splice, Nat.reduceLeDiff, part, fillA, fillE, Nat.reduceLT]
        · simp (maxDischargeDepth := 30) only [f7, amL, args0, Nat.reduceEqDiff, reduceCtorEq, ↓reduceIte, Nat.reduceAdd, resultsA, results1, Int.reduceNeg, splice, Nat.reduceLeDiff, part, fillA, fillE, Nat.reduceLT]
        · simp (maxDischargeDepth := 30) only [amL, args0, Nat.reduceEqDiff, reduceCtorEq, ↓reduceIte, Nat.reduceAdd, resultsA, results1, Int.reduceNeg, splice, Nat.reduceLeDiff, part, fillA, fillE, Nat.reduceLT]
        · rw [hs]; exact hgs
    · have : i = n := by omega
      subst this
      simp (maxDischargeDepth := 30) only [h, f3, f6, f7, f8, amL, args0, Nat.reduceEqDiff, reduceCtorEq, ↓reduceIte, Nat.reduceAdd, resultsA, results1, Int.reduceNeg, splice, Nat.reduceLeDiff, part, fillA, fillE, Nat.reduceLT]
      exact ⟨hg, hgs.sl⟩
  · exact ⟨0, .nils, Nat.zero_le _, rfl, by simp (maxDischargeDepth := 30) only [amL, args0, Nat.reduceEqDiff, reduceCtorEq, ↓reduceIte, Nat.reduceAdd, resultsA, results1, Int.reduceNeg, splice, Nat.reduceLeDiff, part, fillA, fillE, Nat.reduceLT], by simp (maxDischargeDepth := 30) only [amL, args0, Nat.reduceEqDiff, reduceCtorEq, ↓reduceIte, Nat.reduceAdd, resultsA, results1, Int.reduceNeg, splice, Nat.reduceLeDiff, part, fillA, fillE, Nat.reduceLT], by simp (maxDischargeDepth := 30) only [amL, args0, Nat.reduceEqDiff, reduceCtorEq, ↓reduceIte, Nat.reduceAdd, resultsA, results1, Int.reduceNeg, splice, Nat.reduceLeDiff, part, fillA, fillE, Nat.reduceLT], by simp (maxDischargeDepth := 30) only [amL, args0, Nat.reduceEqDiff, reduceCtorEq, ↓reduceIte, Nat.reduceAdd, resultsA, results1, Int.reduceNeg, splice, Nat.reduceLeDiff, part, fillA, fillE, Nat.reduceLT]; rfl, .inl ⟨rfl, rfl⟩, Grow.refl _⟩
theorem pth_rch {to : Nat → List Nat} {src : List Nat} {p : Nat} : (∃ k, Pth to src (-1) k p) ↔ ∃ r, r ∈ src ∧ Rch to r p := by
  constructor
  · rintro ⟨k, h⟩
    induction h with
    | start h1 _ => exact ⟨_, h1, .refl _⟩
    | step _ h2 _ ih =>
      obtain ⟨r, h3, h4⟩ := ih
      exact ⟨r, h3, .step h4 h2⟩
  · rintro ⟨r, h1, h⟩
    induction h with
    | refl => exact ⟨0, .start h1 (by omega)⟩
    | step _ h2 ih =>
      obtain ⟨k, h3⟩ := ih
      exact ⟨k + 1, .step h3 h2 (by omega)⟩
def rootsN (R : List Int) : List Nat := R.map Int.toNat
/-- is a node reached? -/
def Live (N : List NodeA) (R : List Int) (p : Nat) : Prop := ∃ r, r ∈ rootsN R ∧ Rch (toN N) r p
theorem Reached_spec {m : Mem} {nv rv : V} {N : List NodeA} {R : List Int} (hG : Gr m nv rv N R) (hf : Fits N R) : C S n_graph_Reached [.agg [nv, rv]] m (fun r m' => Grow m m' ∧ ((validG N R = false ∧ r = .tup [.nils, .int .i64 2]) ∨ (validG N R = true ∧ ∃ v l, r = .tup [v, .int .i64 0] ∧ Sl m' v 1 (nats l) ∧ l.Pairwise (· < ·) ∧ l.length ≤ N.length ∧ ∀ p, p ∈ l ↔ p < N.length ∧ Live N R p))) := by
  refine C_body rfl rfl rfl ?_
  unfold graph_Reached
  obtain ⟨hc1, hc2⟩ := hG.cells
  simp (maxDischargeDepth := 30) only [hc1, hc2, amL, args0, Nat.reduceEqDiff, reduceCtorEq, ↓reduceIte, Nat.reduceAdd, resultsA, results1, Int.reduceNeg, splice, Nat.reduceLeDiff, part, fillA, fillE, Nat.reduceLT]
  refine (Check_spec (hG.grow (Grow.refl _).app) hf).mono ?_
  rintro _ M1 ⟨rfl, hg1⟩
  have hgm1 : Grow m M1 := (Grow.refl m).app.trans hg1
  have hT1 : M1[m.length]? = some (.cells true [[nv, rv]]) := hg1.get (by simp)
  cases hval : validG N R with
  | false =>
    have c2 : ¬ (2 : Int) = 0 := by decide
    simp (maxDischargeDepth := 30) only [aft_mk, c2, Bool.false_eq_true, amL, args0, Nat.reduceEqDiff, reduceCtorEq, ↓reduceIte, Nat.reduceAdd, resultsA, results1, Int.reduceNeg, splice, Nat.reduceLeDiff, part, fillA, fillE, Nat.reduceLT]
    exact ⟨hgm1, .inl trivial⟩
  | true =>
    obtain ⟨hn, hto, hlt, hR, hRl, _⟩ := valid_to hval
    have c00 : ¬ ¬ (0 : Int) = 0 := by omega
    have ldT1 := fun j k => load_at0 (k := k) (j := j) hT1
    have lN : ∀ j k, loadV (M1 ++ [Blk.cells true [[nv, rv]]]) k (.ptr M1.length 0 j) = part [nv, rv] j k := fun j k => load_at0 (own := true) (by simp)
    simp (maxDischargeDepth := 30) only [aft_mk, c00, ldT1, hc1, hc2, lN, amL, args0, Nat.reduceEqDiff, reduceCtorEq, ↓reduceIte, Nat.reduceAdd, resultsA, results1, Int.reduceNeg, splice, Nat.reduceLeDiff, part, fillA, fillE, Nat.reduceLT]
    have hG2 := hG.grow (hgm1.app (g := [Blk.cells true [[nv, rv]]]))
    have hrs : Sl (M1 ++ [Blk.cells true [[nv, rv]]]) rv 1 (nats (rootsN R)) := by
      have h1 := hG2.1
      rw [hR] at h1
      rw [nats_ints]; exact h1
    refine (walk_spec (but := -1) (own := true) hG2 hf hval (by simp) hrs hRl (by have := hf.2.1; simpa [rootsN] using this)).mono ?_
    rintro v M2 ⟨hg2, far, hfar, hw1, hw2⟩
    simp (maxDischargeDepth := 30) only [aft_mk, amL, args0, Nat.reduceEqDiff, reduceCtorEq, ↓reduceIte, Nat.reduceAdd, resultsA, results1, Int.reduceNeg, splice, Nat.reduceLeDiff, part, fillA, fillE, Nat.reduceLT]
    refine (reached_spec hfar hn).mono ?_
    rintro v2 M3 ⟨hg3, hr⟩
    simp (maxDischargeDepth := 30) only [aft_mk, amL, args0, Nat.reduceEqDiff, reduceCtorEq, ↓reduceIte, Nat.reduceAdd, resultsA, results1, Int.reduceNeg, splice, Nat.reduceLeDiff, part, fillA, fillE, Nat.reduceLT]
    refine ⟨(hgm1.app.trans hg2).trans hg3, .inr ⟨v2, reachedL far N.length, rfl, hr, ?_, reachedL_len, fun p => ?_⟩⟩
    · exact List.Pairwise.filter _ List.pairwise_lt_range
    · rw [mem_reachedL]
      unfold Live
      rw [← pth_rch]
      refine and_congr_right fun hp => ⟨fun h => ⟨_, (hw1 p h).1⟩, fun ⟨k, hk⟩ => (hw2 k p hk).1⟩
end Go.AM.G
