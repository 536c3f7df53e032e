/- Part of the proof: contracts of functions of the given program on an abstract machine. -/
import Derived.Test.YtdfbfcohindpnaaEphemR1
set_option linter.unusedVariables false
set_option linter.unusedSimpArgs false
set_option maxRecDepth 100000
namespace Go.AM.G
open Go Go.AM
/-! ### the document's Check is the program's -/
theorem rf_cases (key : Int) : ∀ (r : List Slot) (i : Nat), (rf key r i = -1 ∧ ∀ s ∈ r, ¬ (s.st = 1 ∧ s.key = key)) ∨ ∃ (j : Nat) (s : Slot), rf key r i = ((i + j : Nat) : Int) ∧ r[j]? = some s ∧ s.st = 1 ∧ s.key = key ∧ ∀ (j' : Nat) (s' : Slot), j' < j → r[j']? = some s' → ¬ (s'.st = 1 ∧ s'.key = key)
  | [], i => .inl ⟨rfl, by simp⟩
  | a :: r, i => by
    simp only [rf]
    by_cases h : a.st = 1 ∧ a.key = key
    · rw [if_pos h]
      exact .inr ⟨0, a, by simp, rfl, h.1, h.2, fun j' _ hj => absurd hj (Nat.not_lt_zero _)⟩
    · rw [if_neg h]
      rcases rf_cases key r (i + 1) with ⟨h1, h2⟩ | ⟨j, s, h1, h2, h3, h4, h5⟩
      · refine .inl ⟨h1, fun s hs => ?_⟩
        rcases List.mem_cons.1 hs with rfl | hs
        · exact h
        · exact h2 s hs
      · refine .inr ⟨j + 1, s, by rw [h1]; congr 1; omega, by simpa using h2, h3, h4, fun j' s' hj hs' => ?_⟩
        cases j' with
        | zero => simp at hs'; subst hs'; exact h
        | succ j' => exact h5 j' s' (by omega) (by simpa using hs')
/-- how far a slot stands from its key's home. -/
def dist (l : List Slot) (i : Nat) (key : Int) : Nat := (i + l.length - hk l key) % l.length
def noFree (l : List Slot) (key : Int) (d : Nat) : Prop := ∀ e, e < d → (sl l (hk l key) e).st ≠ 0
theorem dist_at {l : List Slot} {i : Nat} {key : Int} (hp : Pow l.length) (hi : i < l.length) : (hk l key + dist l i key) % l.length = i ∧ dist l i key < l.length := by
  have hh := hk_lt (k := key) hp
  refine ⟨?_, Nat.mod_lt _ (by omega)⟩
  unfold dist
  rw [Nat.add_mod_mod]
  have : hk l key + (i + l.length - hk l key) = i + l.length := by omega
  rw [this, Nat.add_mod_right, Nat.mod_eq_of_lt hi]
def refOk (l : List Slot) (i : Nat) (s : Slot) : Prop := s.st < 3 ∧ (s.st ≠ 1 → s.key = 0 ∧ s.val = 0) ∧ (s.st = 1 → s.key ≠ 0 ∧ rf s.key l 0 = i ∧ noFree l s.key (dist l i s.key))
theorem refValid_iff {l : List Slot} : validB l = true ↔ l.length = 0 ∨ Pow l.length ∧ l.length ≤ 4 * cnt 0 l ∧ ∀ i s, l[i]? = some s → refOk l i s := by
  rw [valid_iff]
  constructor
  · rintro (h | ⟨h, h4⟩)
    · exact .inl h
    refine .inr ⟨h.pow, h4, fun i s hi => ?_⟩
    have hok := h.ok i s hi
    have hil := (List.getElem?_eq_some_iff.1 hi).1
    have h3 : s.st < 3 := by
      simp only [okS, Bool.and_eq_true, decide_eq_true_eq] at hok
      exact hok.1
    refine ⟨h3, fun hne => ?_, fun h1 => ?_⟩
    · simpa [okS, hne, h3] using hok
    · obtain ⟨hf, hk0⟩ := h.find hi h1
      refine ⟨hk0, ?_, ?_⟩
      · rcases rf_cases s.key l 0 with ⟨_, hn⟩ | ⟨j, s', e, hj, a, b, _⟩
        · exact absurd ⟨h1, rfl⟩ (hn s (List.mem_of_getElem? hi))
        · have := h.uniq hj a hi h1 b
          rw [e, this]
          simp
      · obtain ⟨d, d1, d2, d3, _⟩ := find_true h.pow (k := s.key) (by rw [hf])
        rw [hf] at d3
        obtain ⟨e1, e2⟩ := dist_at (key := s.key) h.pow hil
        have : d = dist l i s.key := mod_inj (hk_lt (k := s.key) h.pow) d1 e2 (by rw [e1]; exact d3.symm)
        intro e he
        rw [← this] at he
        exact (d2 e he).1
  · rintro (h | ⟨hp, h4, hall⟩)
    · exact .inl h
    have hle := hp.le
    refine .inr ⟨⟨hp, by omega, fun i s hi => ?_⟩, h4⟩
    obtain ⟨h3, h0, h1⟩ := hall i s hi
    have hil := (List.getElem?_eq_some_iff.1 hi).1
    by_cases hst : s.st = 1
    · obtain ⟨hk0, hrf, hnf⟩ := h1 hst
      obtain ⟨e1, e2⟩ := dist_at (key := s.key) hp hil
      have hsl : sl l (hk l s.key) (dist l i s.key) = s := by
        have := sl_get (l := l) (h := hk l s.key) (d := dist l i s.key) (by omega)
        rw [e1, hi] at this
        exact (Option.some.inj this).symm
      have hfd := find_at (k := s.key) hp (by omega) e2 (fun e he => ⟨hnf e he, fun hc => ?_⟩) (by rw [hsl]; exact hst) (by rw [hsl])
      · rw [e1] at hfd
        simp [okS, hst, hfd, hk0]
      · have hg := sl_get (l := l) (h := hk l s.key) (d := e) (by omega)
        have hx := (hall _ _ hg).2.2 hc.1
        rw [hc.2, hrf] at hx
        have h2 : i = (hk l s.key + e) % l.length := by omega
        have := mod_inj (hk_lt (k := s.key) hp) (by omega : e < l.length) e2 (by rw [e1]; exact h2.symm)
        omega
    · have := h0 hst
      simp [okS, hst, this, h3]
theorem refCheck_spec {m : Mem} {v : V} {l : List Slot} (hv : Sl m v 3 (encs l)) (hlt : l.length < 2 ^ 60) : C S n_ref10_Check [.agg [v]] m (fun r m' => r = .int .i64 (if validB l = true then 0 else 2) ∧ Grow m m') := by
  refine C_body rfl rfl rfl ?_
  unfold ref10_Check
  have hlen : (encs l).length = l.length := by simp
  have hcell := hv.cell
  simp (maxDischargeDepth := 30) only [hv.len, hcell, hlen, amL, args0, Nat.reduceEqDiff, reduceCtorEq, ↓reduceIte, Nat.reduceAdd, resultsA, results1, Int.reduceNeg, splice, Nat.reduceLeDiff, part, fillA, fillE, Nat.reduceLT]
  first | (refine O_split (by simp only [put_apply, Nat.reduceEqDiff, ↓reduceIte, reduceCtorEq]; rfl) (fun h0 => ?_) (fun h0 => ?_) <;> simp only [decide_eq_true_eq, decide_eq_false_iff_not, Decidable.not_not, Bool.and_eq_true, Bool.not_eq_true', Bool.not_eq_false'] at h0) | (refine W_split (by simp only [get_t, put_apply, Nat.reduceEqDiff, ↓reduceIte, reduceCtorEq]; rfl) (fun h0 => ?_) (fun h0 => ?_) <;> simp only [decide_eq_true_eq, decide_eq_false_iff_not, Decidable.not_not, Bool.and_eq_true, Bool.not_eq_true', Bool.not_eq_false'] at h0)
  · have : l.length = 0 := by omega
    simp (maxDischargeDepth := 30) only [validB, this, Bool.true_or, amL, args0, Nat.reduceEqDiff, reduceCtorEq, ↓reduceIte, Nat.reduceAdd, resultsA, results1, Int.reduceNeg, splice, Nat.reduceLeDiff, part, fillA, fillE, Nat.reduceLT]
    exact (Grow.refl _).app
  have h00 : ¬ l.length = 0 := by omega
  simp (maxDischargeDepth := 30) only [amL, args0, Nat.reduceEqDiff, reduceCtorEq, ↓reduceIte, Nat.reduceAdd, resultsA, results1, Int.reduceNeg, splice, Nat.reduceLeDiff, part, fillA, fillE, Nat.reduceLT]
  refine (refHome_spec 0 l.length).mono ?_
  rintro _ _ ⟨rfl, rfl⟩
  by_cases hpow : Pow l.length
  · have hpl := hpow.le
    have c1 : ¬ ¬ (0 : Int) = 0 := by omega
    simp (maxDischargeDepth := 30) only [aft_mk, hpow, c1, amL, args0, Nat.reduceEqDiff, reduceCtorEq, ↓reduceIte, Nat.reduceAdd, resultsA, results1, Int.reduceNeg, splice, Nat.reduceLeDiff, part, fillA, fillE, Nat.reduceLT]
    refine (refMany_spec 0 hv.app (by omega)).mono ?_
    rintro _ M0 ⟨rfl, hg0⟩
    have hcl := cnt_le 0 l
    have w1 : IntKind.i64.wrap (4 * (cnt 0 l : Int)) = 4 * (cnt 0 l : Int) := by rw [wrap_i64] <;> omega
    simp (maxDischargeDepth := 30) only [aft_mk, w1, hpow, hcell, c1, amL, args0, Nat.reduceEqDiff, reduceCtorEq, ↓reduceIte, Nat.reduceAdd, resultsA, results1, Int.reduceNeg, splice, Nat.reduceLeDiff, part, fillA, fillE, Nat.reduceLT]
    have hgm := ((Grow.refl m).app (g := [Blk.cells true [[v]]])).trans hg0
    have hp0 : M0[m.length]? = some (.cells true [[v]]) := hg0.get (by simp)
    by_cases h4 : l.length ≤ 4 * cnt 0 l
    · have c4 : ¬ 4 * (cnt 0 l : Int) < l.length := by omega
      simp (maxDischargeDepth := 30) only [c4, hv.len, hlen, load_at0 hp0, amL, args0, Nat.reduceEqDiff, reduceCtorEq, ↓reduceIte, Nat.reduceAdd, resultsA, results1, Int.reduceNeg, splice, Nat.reduceLeDiff, part, fillA, fillE, Nat.reduceLT]
      have hvalid : (validB l = true) ↔ ∀ i s, l[i]? = some s → refOk l i s := by
        rw [refValid_iff]
        exact ⟨fun h => (h.resolve_left h00).2.2, fun h => .inr ⟨hpow, h4, h⟩⟩
      let I := fun (k : Nat) (fr : Frame) (M : Mem) => ∃ i : Nat, i ≤ l.length ∧ k = l.length - i ∧ fr 1 = .ptr m.length 0 0 ∧ fr 3 = .int .i64 l.length ∧ fr 30 = v ∧ fr 31 = .int .i64 l.length ∧ fr 32 = .int .i64 i ∧ (∀ j s, j < i → l[j]? = some s → refOk l j s) ∧ Grow M0 M
      refine W_loop I ?_ l.length ?_
      · rintro k fr M ⟨i, hi, rfl, f1, f3, f30, f31, f32, hok, hg⟩
        unfold ref10_Check_l0
        simp (maxDischargeDepth := 30) only [f1, f3, f30, f31, f32, amL, args0, Nat.reduceEqDiff, reduceCtorEq, ↓reduceIte, Nat.reduceAdd, resultsA, results1, Int.reduceNeg, splice, Nat.reduceLeDiff, part, fillA, fillE, Nat.reduceLT]
        first | (refine O_split (by simp only [put_apply, Nat.reduceEqDiff, ↓reduceIte, reduceCtorEq]; rfl) (fun h => ?_) (fun h => ?_) <;> simp only [decide_eq_true_eq, decide_eq_false_iff_not, Decidable.not_not, Bool.and_eq_true, Bool.not_eq_true', Bool.not_eq_false'] at h) | (refine W_split (by simp only [get_t, put_apply, Nat.reduceEqDiff, ↓reduceIte, reduceCtorEq]; rfl) (fun h => ?_) (fun h => ?_) <;> simp only [decide_eq_true_eq, decide_eq_false_iff_not, Decidable.not_not, Bool.and_eq_true, Bool.not_eq_true', Bool.not_eq_false'] at h)
        · have hil : i < l.length := by omega
          obtain ⟨s, hs⟩ : ∃ s, l[i]? = some s := ⟨_, List.getElem?_eq_getElem hil⟩
          have hsl := (hv.grow hgm).grow hg
          have ix := hsl.index (ki := .i64) (n := i) (by omega) (by omega)
          have ld := fun o k => hsl.load (o := o) (k := k) (encs_get hs)
          simp only [Int.toNat_natCast, enc] at ix ld
          have w1 : IntKind.i64.wrap ((i : Int) + 1) = ((i + 1 : Nat) : Int) := by rw [wrap_i64] <;> omega
          have hp1 := hg.get hp0
          have hbad : ¬ refOk l i s → (if validB l = true then (0 : Int) else 2) = 2 := fun hb => by
            rw [if_neg (fun hv => hb (hvalid.1 hv i s hs))]
          have fin : ∀ fr' : Frame, fr' 1 = .ptr m.length 0 0 → fr' 3 = .int .i64 l.length → fr' 30 = v → fr' 31 = .int .i64 l.length → fr' 32 = .int .i64 (i + 1 : Nat) → refOk l i s → ∀ M' : Mem, Grow M0 M' → ∃ j, j < l.length - i ∧ I j fr' M' := fun fr' a1 a3 a30 a31 a32 ho M' a => ⟨l.length - (i + 1), by omega, i + 1, by omega, rfl, a1, a3, a30, a31, a32, fun j s' hj hs' => by
            by_cases e : j = i
            · subst e; rw [hs] at hs'; cases hs'; exact ho
            · exact hok j s' (by omega) hs', a⟩
          by_cases b3 : 3 ≤ s.st
          · have := hbad (fun ho => by have := ho.1; omega)
            simp (maxDischargeDepth := 30) only [h, f1, f3, f30, f31, f32, ix, ld, b3, this, amL, args0, Nat.reduceEqDiff, reduceCtorEq, ↓reduceIte, Nat.reduceAdd, resultsA, results1, Int.reduceNeg, splice, Nat.reduceLeDiff, part, fillA, fillE, Nat.reduceLT]
            exact (hgm.trans hg).app
          by_cases hst : s.st = 1
          · have b3' : ¬ (3 : Int) ≤ 1 := by omega
            have c11 : ¬ ¬ (1 : Int) = 1 := by omega
            by_cases hk0 : s.key = 0
            · have := hbad (fun ho => (ho.2.2 hst).1 hk0)
              simp (maxDischargeDepth := 30) only [h, f1, f3, f30, f31, f32, ix, ld, hst, b3', c11, hk0, this, amL, args0, Nat.reduceEqDiff, reduceCtorEq, ↓reduceIte, Nat.reduceAdd, resultsA, results1, Int.reduceNeg, splice, Nat.reduceLeDiff, part, fillA, fillE, Nat.reduceLT]
              exact (hgm.trans hg).app
            · simp (maxDischargeDepth := 30) only [h, f1, f3, f30, f31, f32, ix, ld, hst, b3', c11, hk0, load_at0 hp1, amL, args0, Nat.reduceEqDiff, reduceCtorEq, ↓reduceIte, Nat.reduceAdd, resultsA, results1, Int.reduceNeg, splice, Nat.reduceLeDiff, part, fillA, fillE, Nat.reduceLT]
              refine (refFind_spec s.key hsl.app (by omega)).mono ?_
              rintro _ M2 ⟨rfl, hg2⟩
              by_cases hrf : rf s.key l 0 = i
              · have c12 : ¬ ¬ (i : Int) = i := by omega
                have hp2 : M2[M.length]? = some (.cells true [[V.int .u8 1, V.int .u64 s.key, V.int .u64 s.val]]) := hg2.get (by simp)
                simp (maxDischargeDepth := 30) only [aft_mk, hrf, c12, load_at0 hp2, f3, amL, args0, Nat.reduceEqDiff, reduceCtorEq, ↓reduceIte, Nat.reduceAdd, resultsA, results1, Int.reduceNeg, splice, Nat.reduceLeDiff, part, fillA, fillE, Nat.reduceLT]
                refine (refHome_spec s.key l.length).mono ?_
                rintro _ _ ⟨rfl, rfl⟩
                simp (maxDischargeDepth := 30) only [aft_mk, hpow, amL, args0, Nat.reduceEqDiff, reduceCtorEq, ↓reduceIte, Nat.reduceAdd, resultsA, results1, Int.reduceNeg, splice, Nat.reduceLeDiff, part, fillA, fillE, Nat.reduceLT]
                obtain ⟨e1, e2⟩ := dist_at (key := s.key) hpow hil
                have hhk := hk_lt (k := s.key) hpow
                have hhome : homeI s.key l.length = ((hk l s.key : Nat) : Int) := by
                  have := (home_range (key := s.key) hpow).1
                  unfold hk
                  omega
                have hgM2 : Grow M0 M2 := hg.app.trans hg2
                have hvM2 := (hv.grow hgm).grow hgM2
                have hpM2 := hgM2.get hp0
                let J := fun (k : Nat) (fr : Frame) (M : Mem) => ∃ d : Nat, d ≤ dist l i s.key ∧ k = dist l i s.key - d ∧ fr 1 = .ptr m.length 0 0 ∧ fr 3 = .int .i64 l.length ∧ fr 6 = .int .i64 i ∧ fr 8 = .int .i64 ((hk l s.key + d) % l.length : Nat) ∧ fr 30 = v ∧ fr 31 = .int .i64 l.length ∧ fr 32 = .int .i64 i ∧ noFree l s.key d ∧ M = M2
                refine W_loop J ?_ (dist l i s.key) ?_
                · rintro k fr M ⟨d, hd, rfl, g1, g3, g6, g8, g30, g31, g32, hnf, rfl⟩
                  have hml : (hk l s.key + d) % l.length < l.length := Nat.mod_lt _ (by omega)
                  unfold ref10_Check_l1
                  by_cases hat : (hk l s.key + d) % l.length = i
                  · have c13 : ¬ ¬ (((hk l s.key + d) % l.length : Nat) : Int) = i := by omega
                    have hdd : d = dist l i s.key := mod_inj hhk (by omega) e2 (by rw [e1]; exact hat)
                    subst hdd
                    simp (maxDischargeDepth := 30) only [g1, g3, g6, g8, g30, g31, g32, c13, w1, amL, args0, Nat.reduceEqDiff, reduceCtorEq, ↓reduceIte, Nat.reduceAdd, resultsA, results1, Int.reduceNeg, splice, Nat.reduceLeDiff, part, fillA, fillE, Nat.reduceLT]
                    refine fin _ ?_ ?_ ?_ ?_ ?_ ⟨by omega, fun hx => absurd hst hx, fun _ => ⟨hk0, hrf, hnf⟩⟩ _ hgM2
                    all_goals simp (maxDischargeDepth := 30) only [g1, g3, g30, g31, g32, amL, args0, Nat.reduceEqDiff, reduceCtorEq, ↓reduceIte, Nat.reduceAdd, resultsA, results1, Int.reduceNeg, splice, Nat.reduceLeDiff, part, fillA, fillE, Nat.reduceLT]
                  · have c13 : ¬ (((hk l s.key + d) % l.length : Nat) : Int) = i := by omega
                    have hdlt : d < dist l i s.key := by
                      rcases Nat.lt_or_ge d (dist l i s.key) with h | h
                      · exact h
                      · have : d = dist l i s.key := by omega
                        rw [this, e1] at hat
                        exact absurd rfl hat
                    have hgd := sl_get (l := l) (h := hk l s.key) (d := d) (by omega)
                    have ix3 := hvM2.index (ki := .i64) (n := (((hk l s.key + d) % l.length : Nat) : Int)) (by omega) (by omega)
                    have ld3 := fun o k => hvM2.load (o := o) (k := k) (encs_get hgd)
                    simp only [Int.toNat_natCast, enc] at ix3 ld3
                    have c14 : ¬ (l.length : Int) = 0 := by omega
                    have w5 : IntKind.i64.wrap ((((hk l s.key + d) % l.length : Nat) : Int) + 1) = (((hk l s.key + d) % l.length + 1 : Nat) : Int) := by rw [wrap_i64] <;> omega
                    have w6 : (((hk l s.key + d) % l.length + 1 : Nat) : Int).tmod l.length = (((hk l s.key + (d + 1)) % l.length : Nat) : Int) := by
                      rw [Int.tmod_eq_emod_of_nonneg (by omega), ← Int.natCast_emod, Nat.mod_add_mod]
                      rfl
                    by_cases hfr : (sl l (hk l s.key) d).st = 0
                    · have := hbad (fun ho => (ho.2.2 hst).2.2 d hdlt hfr)
                      simp (maxDischargeDepth := 30) only [g1, g3, g6, g8, g30, g31, g32, c13, load_at0 hpM2, ix3, ld3, hfr, this, amL, args0, Nat.reduceEqDiff, reduceCtorEq, ↓reduceIte, Nat.reduceAdd, resultsA, results1, Int.reduceNeg, splice, Nat.reduceLeDiff, part, fillA, fillE, Nat.reduceLT]
                      exact hgm.trans hgM2
                    · simp (maxDischargeDepth := 30) only [g1, g3, g6, g8, g30, g31, g32, c13, load_at0 hpM2, ix3, ld3, hfr, c14, w5, w6, amL, args0, Nat.reduceEqDiff, reduceCtorEq, ↓reduceIte, Nat.reduceAdd, resultsA, results1, Int.reduceNeg, splice, Nat.reduceLeDiff, part, fillA, fillE, Nat.reduceLT]
                      refine ⟨_, ?_, d + 1, by omega, rfl, ?_, ?_, ?_, ?_, ?_, ?_, ?_, ?_, rfl⟩
                      · omega
                      · simp (maxDischargeDepth := 30) only [g1, amL, args0, Nat.reduceEqDiff, reduceCtorEq, ↓reduceIte, Nat.reduceAdd, resultsA, results1, Int.reduceNeg, splice, Nat.reduceLeDiff, part, fillA, fillE, Nat.reduceLT]
                      · simp (maxDischargeDepth := 30) only [g3, amL, args0, Nat.reduceEqDiff, reduceCtorEq, ↓reduceIte, Nat.reduceAdd, resultsA, results1, Int.reduceNeg, splice, Nat.reduceLeDiff, part, fillA, fillE, Nat.reduceLT]
                      · simp (maxDischargeDepth := 30) only [g6, amL, args0, Nat.reduceEqDiff, reduceCtorEq, ↓reduceIte, Nat.reduceAdd, resultsA, results1, Int.reduceNeg, splice, Nat.reduceLeDiff, part, fillA, fillE, Nat.reduceLT]
                      · simp (maxDischargeDepth := 30) only [amL, args0, Nat.reduceEqDiff, reduceCtorEq, ↓reduceIte, Nat.reduceAdd, resultsA, results1, Int.reduceNeg, splice, Nat.reduceLeDiff, part, fillA, fillE, Nat.reduceLT]
                      · simp (maxDischargeDepth := 30) only [g30, amL, args0, Nat.reduceEqDiff, reduceCtorEq, ↓reduceIte, Nat.reduceAdd, resultsA, results1, Int.reduceNeg, splice, Nat.reduceLeDiff, part, fillA, fillE, Nat.reduceLT]
                      · simp (maxDischargeDepth := 30) only [g31, amL, args0, Nat.reduceEqDiff, reduceCtorEq, ↓reduceIte, Nat.reduceAdd, resultsA, results1, Int.reduceNeg, splice, Nat.reduceLeDiff, part, fillA, fillE, Nat.reduceLT]
                      · simp (maxDischargeDepth := 30) only [g32, amL, args0, Nat.reduceEqDiff, reduceCtorEq, ↓reduceIte, Nat.reduceAdd, resultsA, results1, Int.reduceNeg, splice, Nat.reduceLeDiff, part, fillA, fillE, Nat.reduceLT]
                      · intro e he
                        by_cases hed : e = d
                        · subst hed; exact hfr
                        · exact hnf e (by omega)
                · refine ⟨0, Nat.zero_le _, rfl, by simp (maxDischargeDepth := 30) only [f1, amL, args0, Nat.reduceEqDiff, reduceCtorEq, ↓reduceIte, Nat.reduceAdd, resultsA, results1, Int.reduceNeg, splice, Nat.reduceLeDiff, part, fillA, fillE, Nat.reduceLT], by simp (maxDischargeDepth := 30) only [f3, amL, args0, Nat.reduceEqDiff, reduceCtorEq, ↓reduceIte, Nat.reduceAdd, resultsA, results1, Int.reduceNeg, splice, Nat.reduceLeDiff, part, fillA, fillE, Nat.reduceLT], by simp (maxDischargeDepth := 30) only [amL, args0, Nat.reduceEqDiff, reduceCtorEq, ↓reduceIte, Nat.reduceAdd, resultsA, results1, Int.reduceNeg, splice, Nat.reduceLeDiff, part, fillA, fillE, Nat.reduceLT], ?_, by simp (maxDischargeDepth := 30) only [f30, amL, args0, Nat.reduceEqDiff, reduceCtorEq, ↓reduceIte, Nat.reduceAdd, resultsA, results1, Int.reduceNeg, splice, Nat.reduceLeDiff, part, fillA, fillE, Nat.reduceLT], by simp (maxDischargeDepth := 30) only [f31, amL, args0, Nat.reduceEqDiff, reduceCtorEq, ↓reduceIte, Nat.reduceAdd, resultsA, results1, Int.reduceNeg, splice, Nat.reduceLeDiff, part, fillA, fillE, Nat.reduceLT], by simp (maxDischargeDepth := 30) only [f32, amL, args0, Nat.reduceEqDiff, reduceCtorEq, ↓reduceIte, Nat.reduceAdd, resultsA, results1, Int.reduceNeg, splice, Nat.reduceLeDiff, part, fillA, fillE, Nat.reduceLT], fun e he => absurd he (Nat.not_lt_zero _), rfl⟩
                  simp (maxDischargeDepth := 30) only [hhome, amL, args0, Nat.reduceEqDiff, reduceCtorEq, ↓reduceIte, Nat.reduceAdd, resultsA, results1, Int.reduceNeg, splice, Nat.reduceLeDiff, part, fillA, fillE, Nat.reduceLT]
                  rw [Nat.mod_eq_of_lt hhk]
              · have := hbad (fun ho => hrf (ho.2.2 hst).2.1)
                simp (maxDischargeDepth := 30) only [aft_mk, hrf, this, amL, args0, Nat.reduceEqDiff, reduceCtorEq, ↓reduceIte, Nat.reduceAdd, resultsA, results1, Int.reduceNeg, splice, Nat.reduceLeDiff, part, fillA, fillE, Nat.reduceLT]
                exact (hgm.trans hg).app.trans hg2
          · by_cases hz : s.key = 0 ∧ s.val = 0
            · obtain ⟨z1, z2⟩ := hz
              have c00 : ¬ ¬ (0 : Int) = 0 := by omega
              simp (maxDischargeDepth := 30) only [h, f1, f3, f30, f31, f32, ix, ld, hst, b3, z1, z2, c00, w1, amL, args0, Nat.reduceEqDiff, reduceCtorEq, ↓reduceIte, Nat.reduceAdd, resultsA, results1, Int.reduceNeg, splice, Nat.reduceLeDiff, part, fillA, fillE, Nat.reduceLT]
              refine fin _ ?_ ?_ ?_ ?_ ?_ ⟨by omega, fun _ => ⟨z1, z2⟩, fun hx => absurd hx hst⟩ _ hg.app
              all_goals simp (maxDischargeDepth := 30) only [f1, f3, f30, f31, f32, amL, args0, Nat.reduceEqDiff, reduceCtorEq, ↓reduceIte, Nat.reduceAdd, resultsA, results1, Int.reduceNeg, splice, Nat.reduceLeDiff, part, fillA, fillE, Nat.reduceLT]
            · have := hbad (fun ho => hz (ho.2.1 hst))
              by_cases z1 : s.key = 0
              · have z2 : ¬ s.val = 0 := fun e => hz ⟨z1, e⟩
                have c00 : ¬ ¬ (0 : Int) = 0 := by omega
                simp (maxDischargeDepth := 30) only [h, f1, f3, f30, f31, f32, ix, ld, hst, b3, z1, z2, c00, this, amL, args0, Nat.reduceEqDiff, reduceCtorEq, ↓reduceIte, Nat.reduceAdd, resultsA, results1, Int.reduceNeg, splice, Nat.reduceLeDiff, part, fillA, fillE, Nat.reduceLT]
                exact (hgm.trans hg).app
              · simp (maxDischargeDepth := 30) only [h, f1, f3, f30, f31, f32, ix, ld, hst, b3, z1, this, amL, args0, Nat.reduceEqDiff, reduceCtorEq, ↓reduceIte, Nat.reduceAdd, resultsA, results1, Int.reduceNeg, splice, Nat.reduceLeDiff, part, fillA, fillE, Nat.reduceLT]
                exact (hgm.trans hg).app
        · have : i = l.length := by omega
          subst this
          have hvv : validB l = true := hvalid.2 fun j s hj => hok j s (List.getElem?_eq_some_iff.1 hj).1 hj
          simp (maxDischargeDepth := 30) only [h, f1, f3, f30, f31, f32, hvv, amL, args0, Nat.reduceEqDiff, reduceCtorEq, ↓reduceIte, Nat.reduceAdd, resultsA, results1, Int.reduceNeg, splice, Nat.reduceLeDiff, part, fillA, fillE, Nat.reduceLT]
          exact hgm.trans hg
      · exact ⟨0, by omega, rfl, by simp (maxDischargeDepth := 30) only [amL, args0, Nat.reduceEqDiff, reduceCtorEq, ↓reduceIte, Nat.reduceAdd, resultsA, results1, Int.reduceNeg, splice, Nat.reduceLeDiff, part, fillA, fillE, Nat.reduceLT], by simp (maxDischargeDepth := 30) only [amL, args0, Nat.reduceEqDiff, reduceCtorEq, ↓reduceIte, Nat.reduceAdd, resultsA, results1, Int.reduceNeg, splice, Nat.reduceLeDiff, part, fillA, fillE, Nat.reduceLT], by simp (maxDischargeDepth := 30) only [amL, args0, Nat.reduceEqDiff, reduceCtorEq, ↓reduceIte, Nat.reduceAdd, resultsA, results1, Int.reduceNeg, splice, Nat.reduceLeDiff, part, fillA, fillE, Nat.reduceLT], by simp (maxDischargeDepth := 30) only [amL, args0, Nat.reduceEqDiff, reduceCtorEq, ↓reduceIte, Nat.reduceAdd, resultsA, results1, Int.reduceNeg, splice, Nat.reduceLeDiff, part, fillA, fillE, Nat.reduceLT], by simp (maxDischargeDepth := 30) only [amL, args0, Nat.reduceEqDiff, reduceCtorEq, ↓reduceIte, Nat.reduceAdd, resultsA, results1, Int.reduceNeg, splice, Nat.reduceLeDiff, part, fillA, fillE, Nat.reduceLT]; rfl, fun j s hj => absurd hj (Nat.not_lt_zero _), Grow.refl _⟩
    · have c4 : 4 * (cnt 0 l : Int) < l.length := by omega
      have : (if validB l = true then (0 : Int) else 2) = 2 := by
        rw [if_neg]
        rw [refValid_iff]
        rintro (h | h)
        · exact h00 h
        · exact h4 h.2.1
      simp (maxDischargeDepth := 30) only [c4, this, amL, args0, Nat.reduceEqDiff, reduceCtorEq, ↓reduceIte, Nat.reduceAdd, resultsA, results1, Int.reduceNeg, splice, Nat.reduceLeDiff, part, fillA, fillE, Nat.reduceLT]
      exact hgm
  · have c1 : ¬ (1 : Int) = 0 := by omega
    have : (if validB l = true then (0 : Int) else 2) = 2 := by
      rw [if_neg]
      rw [refValid_iff]
      rintro (h | h)
      · exact h00 h
      · exact hpow h.1
    simp (maxDischargeDepth := 30) only [aft_mk, hpow, c1, this, amL, args0, Nat.reduceEqDiff, reduceCtorEq, ↓reduceIte, Nat.reduceAdd, resultsA, results1, Int.reduceNeg, splice, Nat.reduceLeDiff, part, fillA, fillE, Nat.reduceLT]
    exact (Grow.refl _).app
end Go.AM.G
