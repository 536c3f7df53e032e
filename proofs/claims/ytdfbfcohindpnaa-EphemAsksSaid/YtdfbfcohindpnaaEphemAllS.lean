/- Part of the proof: contracts of functions of the given program on an abstract machine. -/
import Derived.Test.YtdfbfcohindpnaaEphemO
set_option linter.unusedVariables false
set_option linter.unusedSimpArgs false
set_option maxRecDepth 100000
namespace Go.AM.G
open Go Go.AM
theorem mem_used {l : List Slot} {s : Slot} : s ∈ used l ↔ s ∈ l ∧ s.st = 1 := by simp [used]
theorem mem_srt {l : List Slot} {s : Slot} : s ∈ srtL (used l) ↔ s ∈ l ∧ s.st = 1 := by rw [srtL_perm.mem_iff, mem_used]
theorem srt_key {l : List Slot} (h : validB l = true) {i : Nat} {s : Slot} (hs : (srtL (used l))[i]? = some s) : getL l s.key = (s.val, 0) := by
  have hm := mem_srt.1 (List.mem_of_getElem? hs)
  have hk := (valid_pair h).1 s hm.1 hm.2
  have hh : Has l s.key s.val := has_iff.2 ⟨s, hm.1, hm.2, rfl, rfl⟩
  rcases getL_valid h hk with ⟨v, e, a⟩ | ⟨e, a⟩
  · rcases valid_iff.1 h with h0 | ⟨h1, _⟩
    · have := hh.len; omega
    · rw [e, h1.has_uniq a hh]
  · exact absurd hh (a _)
theorem used_pair {l : List Slot} (h : validB l = true) : (used l).Pairwise fun a b => a.key ≠ b.key := by
  have h2 := (valid_pair h).2
  have h3 : (used l).Pairwise fun a b => a.st = 1 → b.st = 1 → a.key ≠ b.key := h2.filter _
  refine h3.imp_of_mem ?_
  intro a b ha hb hab
  exact hab (mem_used.1 ha).2 (mem_used.1 hb).2
theorem srt_rise {l : List Slot} (h : validB l = true) {i j : Nat} {a b : Slot} (hij : i < j) (ha : (srtL (used l))[i]? = some a) (hb : (srtL (used l))[j]? = some b) : a.key < b.key := by
  have h1 := srtL_sorted hij ha hb
  have h2 : (srtL (used l)).Pairwise fun a b => a.key ≠ b.key := (srtL_perm (d := used l)).symm.pairwise (used_pair h) (fun hab => fun e => hab e.symm)
  rw [List.pairwise_iff_getElem] at h2
  obtain ⟨x1, e1⟩ := List.getElem?_eq_some_iff.1 ha
  obtain ⟨x2, e2⟩ := List.getElem?_eq_some_iff.1 hb
  have := h2 i j x1 x2 hij
  rw [e1, e2] at this
  omega
theorem srt_has {l : List Slot} (h : validB l = true) {k : Int} : (k ∈ (srtL (used l)).map (·.key)) ↔ (getL l k).2 = 0 := by
  constructor
  · intro hk
    obtain ⟨s, hs, rfl⟩ := List.mem_map.1 hk
    obtain ⟨i, hi⟩ := List.getElem?_of_mem hs
    rw [srt_key h hi]
  · intro hk
    by_cases h0 : k = 0
    · simp [getL, h, h0] at hk
    · rcases getL_valid h h0 with ⟨v, e, a⟩ | ⟨e, a⟩
      · obtain ⟨s, hs, h1, h2, _⟩ := has_iff.1 a
        exact List.mem_map.2 ⟨s, mem_srt.2 ⟨hs, h1⟩, h2⟩
      · rw [e] at hk; simp at hk
theorem all_spec {m : Mem} {v : V} {l : List Slot} (other : Int) (hv : Sl m v 3 (encs l)) (hl : l.length < 5864062014806) : C S n_law10_EphemAll [.agg [v], .int .u64 other] m (fun r m' => r = .bool true ∧ Grow m m') := by
  refine C_body rfl rfl rfl ?_
  unfold law10_EphemAll
  have hcell := hv.cell
  simp (maxDischargeDepth := 30) only [hcell, amL, args0, Nat.reduceEqDiff, reduceCtorEq, ↓reduceIte, Nat.reduceAdd, resultsA, results1, Int.reduceNeg, splice, Nat.reduceLeDiff, part, fillA, fillE, Nat.reduceLT]
  refine lives_spec.mono ?_
  rintro _ _ ⟨rfl, rfl⟩
  simp (maxDischargeDepth := 30) only [aft_mk, hcell, amL, args0, Nat.reduceEqDiff, reduceCtorEq, ↓reduceIte, Nat.reduceAdd, resultsA, results1, Int.reduceNeg, splice, Nat.reduceLeDiff, part, fillA, fillE, Nat.reduceLT]
  refine (All_spec hv.app hl).mono ?_
  rintro _ m1 ⟨kv, vv, rfl, hg1, hkv, hvv⟩
  have hg0 : Grow m m1 := ((Grow.refl m).app (g := [Blk.cells true [[v]]])).trans hg1
  by_cases hval : validB l = true
  · have h64 := valid_len hval
    generalize hd : srtL (used l) = d
    have hdl : d.length ≤ 64 := by rw [← hd, srtL_len]; have := used_len (l := l); omega
    have e1 : (allL l).1 = d.map (·.key) := by simp [allL, hval, hd]
    have e2 : (allL l).2.1 = d.map (·.val) := by simp [allL, hval, hd]
    have e3 : (allL l).2.2 = 0 := by simp [allL, hval]
    rw [e1] at hkv
    rw [e2] at hvv
    rw [e3]
    have hlk : (ints (d.map (·.key))).length = d.length := by simp
    have hlv : (ints (d.map (·.val))).length = d.length := by simp
    have c0 : ¬ ¬ (0 : Int) = 0 := by omega
    simp (maxDischargeDepth := 30) only [aft_mk, c0, hkv.len, hlk, amL, args0, Nat.reduceEqDiff, reduceCtorEq, ↓reduceIte, Nat.reduceAdd, resultsA, results1, Int.reduceNeg, splice, Nat.reduceLeDiff, part, fillA, fillE, Nat.reduceLT]
    have ht1 : m1[m.length]? = some (.cells true [[v]]) := hg1.get (by simp)
    let I := fun (n : Nat) (fr : Frame) (M : Mem) => ∃ i : Nat, i ≤ d.length ∧ n = d.length - i ∧ fr 1 = .int .u64 other ∧ fr 2 = .ptr m.length 0 0 ∧ fr 5 = kv ∧ fr 6 = vv ∧ fr 28 = kv ∧ fr 29 = .int .i64 d.length ∧ fr 30 = .int .i64 i ∧ fr 8 = .bool (decide (other ∈ (d.map (·.key)).take i)) ∧ Grow m1 M
    refine W_loop I ?_ d.length ?_
    · rintro n fr M ⟨i, hi, rfl, f1, f2, f5, f6, f28, f29, f30, f8, hg⟩
      unfold law10_EphemAll_l0
      simp (maxDischargeDepth := 30) only [f1, f2, f5, f6, f28, f29, f30, f8, amL, args0, Nat.reduceEqDiff, reduceCtorEq, ↓reduceIte, Nat.reduceAdd, resultsA, results1, Int.reduceNeg, splice, Nat.reduceLeDiff, part, fillA, fillE, Nat.reduceLT]
      have hvM := (hv.grow hg0).grow hg
      have htM := hg.get ht1
      have hkM := hkv.grow hg
      have hwM := hvv.grow hg
      first | (refine O_split (by simp only [put_apply, Nat.reduceEqDiff, ↓reduceIte, reduceCtorEq]; rfl) (fun h => ?_) (fun h => ?_) <;> simp only [decide_eq_true_eq, decide_eq_false_iff_not, Decidable.not_not, Bool.and_eq_true, Bool.not_eq_true', Bool.not_eq_false'] at h) | (refine W_split (by simp only [get_t, put_apply, Nat.reduceEqDiff, ↓reduceIte, reduceCtorEq]; rfl) (fun h => ?_) (fun h => ?_) <;> simp only [decide_eq_true_eq, decide_eq_false_iff_not, Decidable.not_not, Bool.and_eq_true, Bool.not_eq_true', Bool.not_eq_false'] at h)
      · have hil : i < d.length := by omega
        obtain ⟨s, hs⟩ : ∃ s, d[i]? = some s := ⟨_, List.getElem?_eq_getElem hil⟩
        have ix := hkM.index (ki := .i64) (n := i) (by omega) (by omega)
        have ld := fun o j => hkM.load (o := o) (k := j) (i := i) (el := [.int .u64 s.key]) (by simp [hs])
        simp only [Int.toNat_natCast] at ix ld
        have w1 : IntKind.i64.wrap ((i : Int) + 1) = ((i + 1 : Nat) : Int) := by rw [wrap_i64] <;> omega
        simp (maxDischargeDepth := 30) only [h, f1, f2, f5, f6, f28, f29, f30, f8, ix, ld, load_at0 htM, amL, args0, Nat.reduceEqDiff, reduceCtorEq, ↓reduceIte, Nat.reduceAdd, resultsA, results1, Int.reduceNeg, splice, Nat.reduceLeDiff, part, fillA, fillE, Nat.reduceLT]
        refine (Get_spec s.key hvM (by omega)).mono ?_
        rintro _ M2 ⟨rfl, hg2⟩
        have hget : getL l s.key = (s.val, 0) := srt_key hval (by rw [hd]; exact hs)
        have hw2 := hwM.grow hg2
        have ix2 := hw2.index (ki := .i64) (n := i) (by omega) (by omega)
        have ld2 := fun o j => hw2.load (o := o) (k := j) (i := i) (el := [.int .u64 s.val]) (by simp [hs])
        simp only [Int.toNat_natCast] at ix2 ld2
        have c1 : ¬ ¬ s.val = s.val := fun h => h rfl
        have hmem : (other ∈ (d.map (·.key)).take (i + 1)) ↔ (other ∈ (d.map (·.key)).take i ∨ s.key = other) := by
          have : (d.map (·.key))[i]? = some s.key := by simp [hs]
          obtain ⟨z1, z2⟩ := List.getElem?_eq_some_iff.1 this
          rw [List.take_succ_eq_append_getElem z1, z2]
          simp [eq_comm]
        have fin : ∀ fr' : Frame, fr' 1 = .int .u64 other → fr' 2 = .ptr m.length 0 0 → fr' 5 = kv → fr' 6 = vv → fr' 28 = kv → fr' 29 = .int .i64 d.length → fr' 30 = .int .i64 (i + 1 : Nat) → fr' 8 = .bool (decide (other ∈ (d.map (·.key)).take (i + 1))) → ∃ j, j < d.length - i ∧ I j fr' M2 := fun fr' a1 a2 a5 a6 a28 a29 a30 a8 => ⟨d.length - (i + 1), by omega, i + 1, by omega, rfl, a1, a2, a5, a6, a28, a29, a30, a8, hg.trans hg2⟩
        have hor : ∀ b : Bool, b = decide (other ∈ (d.map (·.key)).take i) ∨ True := fun _ => .inr trivial
        cases i with
        | zero =>
          have i0 : ¬ (0 : Int) < (0 : Nat) := by omega
          have hm0 : ¬ other ∈ (d.map (·.key)).take 0 := by simp
          have f8' : fr 8 = .bool false := by rw [f8]; simp
          simp (maxDischargeDepth := 30) only [aft_mk, hget, c0, c1, f1, f2, f5, f6, f28, f29, f30, f8', ix2, ld2, i0, hm0, amL, args0, Nat.reduceEqDiff, reduceCtorEq, ↓reduceIte, Nat.reduceAdd, resultsA, results1, Int.reduceNeg, splice, Nat.reduceLeDiff, part, fillA, fillE, Nat.reduceLT]
          refine fin _ ?_ ?_ ?_ ?_ ?_ ?_ ?_ ?_
          all_goals simp (maxDischargeDepth := 30) only [f1, f2, f5, f6, f28, f29, f30, w1, amL, args0, Nat.reduceEqDiff, reduceCtorEq, ↓reduceIte, Nat.reduceAdd, resultsA, results1, Int.reduceNeg, splice, Nat.reduceLeDiff, part, fillA, fillE, Nat.reduceLT]
          simp only [hmem, hm0, false_or]
        | succ i =>
          have i0 : (0 : Int) < ((i + 1 : Nat) : Int) := by omega
          obtain ⟨p, hp⟩ : ∃ p, d[i]? = some p := ⟨_, List.getElem?_eq_getElem (by omega)⟩
          have hlt := srt_rise hval (i := i) (j := i + 1) (a := p) (b := s) (by omega) (by rw [hd]; exact hp) (by rw [hd]; exact hs)
          have hk2 := hkM.grow hg2
          have ix3 := hk2.index (ki := .i64) (n := i) (by omega) (by omega)
          have ld3 := fun o j => hk2.load (o := o) (k := j) (i := i) (el := [.int .u64 p.key]) (by simp [hp])
          simp only [Int.toNat_natCast] at ix3 ld3
          have w3 : IntKind.i64.wrap (((i + 1 : Nat) : Int) - 1) = (i : Int) := by rw [wrap_i64] <;> omega
          have c2 : ¬ s.key ≤ p.key := by omega
          by_cases hm : other ∈ (d.map (·.key)).take (i + 1)
          · simp (maxDischargeDepth := 30) only [aft_mk, hget, c0, c1, f1, f2, f5, f6, f28, f29, f30, f8, ix2, ld2, i0, ix3, ld3, w3, c2, hm, amL, args0, Nat.reduceEqDiff, reduceCtorEq, ↓reduceIte, Nat.reduceAdd, resultsA, results1, Int.reduceNeg, splice, Nat.reduceLeDiff, part, fillA, fillE, Nat.reduceLT]
            refine fin _ ?_ ?_ ?_ ?_ ?_ ?_ ?_ ?_
            all_goals simp (maxDischargeDepth := 30) only [f1, f2, f5, f6, f28, f29, f30, w1, amL, args0, Nat.reduceEqDiff, reduceCtorEq, ↓reduceIte, Nat.reduceAdd, resultsA, results1, Int.reduceNeg, splice, Nat.reduceLeDiff, part, fillA, fillE, Nat.reduceLT]
            simp only [hmem, hm, true_or, decide_true]
          · simp (maxDischargeDepth := 30) only [aft_mk, hget, c0, c1, f1, f2, f5, f6, f28, f29, f30, f8, ix2, ld2, i0, ix3, ld3, w3, c2, hm, amL, args0, Nat.reduceEqDiff, reduceCtorEq, ↓reduceIte, Nat.reduceAdd, resultsA, results1, Int.reduceNeg, splice, Nat.reduceLeDiff, part, fillA, fillE, Nat.reduceLT]
            refine fin _ ?_ ?_ ?_ ?_ ?_ ?_ ?_ ?_
            all_goals simp (maxDischargeDepth := 30) only [f1, f2, f5, f6, f28, f29, f30, w1, amL, args0, Nat.reduceEqDiff, reduceCtorEq, ↓reduceIte, Nat.reduceAdd, resultsA, results1, Int.reduceNeg, splice, Nat.reduceLeDiff, part, fillA, fillE, Nat.reduceLT]
            simp only [hmem, hm, false_or]
      · have : i = d.length := by omega
        subst this
        rw [List.take_of_length_le (by simp)] at f8
        simp (maxDischargeDepth := 30) only [h, f1, f2, f5, f6, f28, f29, f30, f8, load_at0 htM, amL, args0, Nat.reduceEqDiff, reduceCtorEq, ↓reduceIte, Nat.reduceAdd, resultsA, results1, Int.reduceNeg, splice, Nat.reduceLeDiff, part, fillA, fillE, Nat.reduceLT]
        refine (Get_spec other hvM (by omega)).mono ?_
        rintro _ M2 ⟨rfl, hg2⟩
        have hk2 := hkM.grow hg2
        have hw2 := hwM.grow hg2
        have hh := srt_has hval (k := other)
        rw [hd] at hh
        by_cases hm : other ∈ d.map (·.key)
        · have hm' := hh.1 hm
          simp (maxDischargeDepth := 30) only [aft_mk, f1, f2, f5, f6, f28, f29, f30, f8, hkM.len, hwM.len, hlk, hlv, hm, hm', amL, args0, Nat.reduceEqDiff, reduceCtorEq, ↓reduceIte, Nat.reduceAdd, resultsA, results1, Int.reduceNeg, splice, Nat.reduceLeDiff, part, fillA, fillE, Nat.reduceLT]
          exact (hg0.trans hg).trans hg2
        · have hm' : ¬ (getL l other).2 = 0 := fun e => hm (hh.2 e)
          simp (maxDischargeDepth := 30) only [aft_mk, f1, f2, f5, f6, f28, f29, f30, f8, hkM.len, hwM.len, hlk, hlv, hm, hm', amL, args0, Nat.reduceEqDiff, reduceCtorEq, ↓reduceIte, Nat.reduceAdd, resultsA, results1, Int.reduceNeg, splice, Nat.reduceLeDiff, part, fillA, fillE, Nat.reduceLT]
          exact (hg0.trans hg).trans hg2
    · exact ⟨0, by omega, rfl, by simp (maxDischargeDepth := 30) only [amL, args0, Nat.reduceEqDiff, reduceCtorEq, ↓reduceIte, Nat.reduceAdd, resultsA, results1, Int.reduceNeg, splice, Nat.reduceLeDiff, part, fillA, fillE, Nat.reduceLT], by simp (maxDischargeDepth := 30) only [amL, args0, Nat.reduceEqDiff, reduceCtorEq, ↓reduceIte, Nat.reduceAdd, resultsA, results1, Int.reduceNeg, splice, Nat.reduceLeDiff, part, fillA, fillE, Nat.reduceLT], by simp (maxDischargeDepth := 30) only [amL, args0, Nat.reduceEqDiff, reduceCtorEq, ↓reduceIte, Nat.reduceAdd, resultsA, results1, Int.reduceNeg, splice, Nat.reduceLeDiff, part, fillA, fillE, Nat.reduceLT], by simp (maxDischargeDepth := 30) only [amL, args0, Nat.reduceEqDiff, reduceCtorEq, ↓reduceIte, Nat.reduceAdd, resultsA, results1, Int.reduceNeg, splice, Nat.reduceLeDiff, part, fillA, fillE, Nat.reduceLT], by simp (maxDischargeDepth := 30) only [amL, args0, Nat.reduceEqDiff, reduceCtorEq, ↓reduceIte, Nat.reduceAdd, resultsA, results1, Int.reduceNeg, splice, Nat.reduceLeDiff, part, fillA, fillE, Nat.reduceLT], by simp (maxDischargeDepth := 30) only [amL, args0, Nat.reduceEqDiff, reduceCtorEq, ↓reduceIte, Nat.reduceAdd, resultsA, results1, Int.reduceNeg, splice, Nat.reduceLeDiff, part, fillA, fillE, Nat.reduceLT], by simp (maxDischargeDepth := 30) only [amL, args0, Nat.reduceEqDiff, reduceCtorEq, ↓reduceIte, Nat.reduceAdd, resultsA, results1, Int.reduceNeg, splice, Nat.reduceLeDiff, part, fillA, fillE, Nat.reduceLT]; rfl, by simp (maxDischargeDepth := 30) only [amL, args0, Nat.reduceEqDiff, reduceCtorEq, ↓reduceIte, Nat.reduceAdd, resultsA, results1, Int.reduceNeg, splice, Nat.reduceLeDiff, part, fillA, fillE, Nat.reduceLT]; simp, Grow.refl _⟩
  · have e1 : (allL l).1 = [] := by simp [allL, hval]
    have e3 : (allL l).2.2 = 2 := by simp [allL, hval]
    have c : ¬ (2 : Int) = 0 := by omega
    have hlk : (ints (allL l).1).length = 0 := by rw [e1]; rfl
    simp (maxDischargeDepth := 30) only [aft_mk, e3, c, hkv.len, hlk, amL, args0, Nat.reduceEqDiff, reduceCtorEq, ↓reduceIte, Nat.reduceAdd, resultsA, results1, Int.reduceNeg, splice, Nat.reduceLeDiff, part, fillA, fillE, Nat.reduceLT]
    exact ⟨rfl, hg0⟩
end Go.AM.G
