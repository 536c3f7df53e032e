/- Part of the proof: contracts of functions of the given program on an abstract machine. -/
import Derived.Test.YtdfbfcohindpnaaEphemI0
import Derived.Test.YtdfbfcohindpnaaEphemP
set_option linter.unusedVariables false
set_option linter.unusedSimpArgs false
set_option maxRecDepth 100000
namespace Go.AM.G
open Go Go.AM
theorem back_spec {m : Mem} {v : V} {l : List Slot} (key val other : Int) (hv : Sl m v 3 (encs l)) (hl : l.length < 5864062014806) : C S n_law10_EphemBack [.agg [v], .int .u64 key, .int .u64 val, .int .u64 other] m (fun r m' => r = .bool true ∧ Grow m m') := by
  refine C_body rfl rfl rfl ?_
  unfold law10_EphemBack
  have hcell := hv.cell
  simp (maxDischargeDepth := 30) only [hcell, amL, args0, Nat.reduceEqDiff, reduceCtorEq, ↓reduceIte, Nat.reduceAdd, resultsA, results1, Int.reduceNeg, splice, Nat.reduceLeDiff, part, fillA, fillE, Nat.reduceLT]
  refine lives_spec.mono ?_
  rintro _ _ ⟨rfl, rfl⟩
  simp (maxDischargeDepth := 30) only [aft_mk, hcell, amL, args0, Nat.reduceEqDiff, reduceCtorEq, ↓reduceIte, Nat.reduceAdd, resultsA, results1, Int.reduceNeg, splice, Nat.reduceLeDiff, part, fillA, fillE, Nat.reduceLT]
  refine (Put_spec key val hv.app hl).mono ?_
  rintro _ _ ⟨u, rfl, ⟨g, rfl⟩, hu⟩
  have huc := hu.1.cell
  have htk : (m ++ [Blk.cells true [[v]]] ++ g)[m.length]? = some (.cells true [[v]]) := getElem?_grow (by simp)
  have hvk : Sl (m ++ [Blk.cells true [[v]]] ++ g) v 3 (encs l) := hv.app.app
  have hgk : Grow m (m ++ [Blk.cells true [[v]]] ++ g) := (Grow.refl _).app.app
  have hu1 := hu.1
  simp (maxDischargeDepth := 30) only [aft_mk, hcell, huc, amL, args0, Nat.reduceEqDiff, reduceCtorEq, ↓reduceIte, Nat.reduceAdd, resultsA, results1, Int.reduceNeg, splice, Nat.reduceLeDiff, part, fillA, fillE, Nat.reduceLT]
  generalize m ++ [Blk.cells true [[v]]] ++ g = M at hu1 htk hvk hgk
  clear hu
  have hvM : Sl (M ++ [Blk.cells true [[u]]]) v 3 (encs l) := hvk.app
  have huM : Sl (M ++ [Blk.cells true [[u]]]) u 3 (encs (putL l key val).1) := hu1.app
  have hlen : (putL l key val).1.length ≤ l.length + 64 := putL_len
  by_cases hval : validB l = true
  · by_cases hk : key = 0
    · have hp : putL l key val = (l, 7) := by simp [putL, hval, hk]
      rw [hp] at huM
      have c1 : ¬ (7 : Int) = 0 := by omega
      have c2 : ¬ (7 : Int) = 2 := by omega
      simp (maxDischargeDepth := 30) only [aft_mk, hp, c1, c2, load_at0 htk, amL, args0, Nat.reduceEqDiff, reduceCtorEq, ↓reduceIte, Nat.reduceAdd, resultsA, results1, Int.reduceNeg, splice, Nat.reduceLeDiff, part, fillA, fillE, Nat.reduceLT]
      refine (Same_spec hvM huM hl).mono ?_
      rintro _ _ ⟨rfl, g2, rfl⟩
      simp (maxDischargeDepth := 30) only [aft_mk, c2, amL, args0, Nat.reduceEqDiff, reduceCtorEq, ↓reduceIte, Nat.reduceAdd, resultsA, results1, Int.reduceNeg, splice, Nat.reduceLeDiff, part, fillA, fillE, Nat.reduceLT]
      exact hgk.app.app
    rcases putL_valid (v := val) hval hk with ⟨p2, pv, pok, phas, _⟩ | ⟨p2, p1, _⟩
    · simp (maxDischargeDepth := 30) only [aft_mk, p2, amL, args0, Nat.reduceEqDiff, reduceCtorEq, ↓reduceIte, Nat.reduceAdd, resultsA, results1, Int.reduceNeg, splice, Nat.reduceLeDiff, part, fillA, fillE, Nat.reduceLT]
      have hw : ∀ M : Mem, Sl (M ++ [Blk.cells true [[V.int .u64 key]]]) (.slice M.length 0 1 1 true 1) 1 (ints [key]) := fun M => Sl.mk (els := ints [key]) (own := true) (by simp)
      refine (Del_spec (keys := [key]) huM.app (hw _) ?_ (by simp)).mono ?_
      · rcases valid_cases pv with h | ⟨h, _⟩
        · omega
        · have := h.le; omega
      rintro _ _ ⟨ub, rfl, ⟨g4, rfl⟩, hub⟩
      have hubc := hub.1.cell
      obtain ⟨d1, d2, d3, d4⟩ := delL_valid (k := key) pv
      have hn1 : (delL (putL l key val).1 [key]).2.1 = 1 := by
        rcases d4 with ⟨_, h⟩ | ⟨h, _⟩
        · exact h
        · exact absurd ((phas key val).2 (by rw [if_pos rfl])) (h val)
      have hbl : (delL (putL l key val).1 [key]).1.length < 2 ^ 60 := by
        rcases valid_cases d1 with h | ⟨h, _⟩
        · omega
        · have := h.le; omega
      have hub1 := hub.1
      have hvk2 := (hvM.app (g := [Blk.cells true [[V.int .u64 key]]])).app (g := g4)
      have htk2 : (M ++ [Blk.cells true [[u]]] ++ [Blk.cells true [[V.int .u64 key]]] ++ g4)[m.length]? = some (.cells true [[v]]) := getElem?_grow (getElem?_grow (getElem?_grow htk))
      have hgk2 : Grow m (M ++ [Blk.cells true [[u]]] ++ [Blk.cells true [[V.int .u64 key]]] ++ g4) := hgk.app.app.app
      simp (maxDischargeDepth := 30) only [aft_mk, hubc, d2, hn1, amL, args0, Nat.reduceEqDiff, reduceCtorEq, ↓reduceIte, Nat.reduceAdd, resultsA, results1, Int.reduceNeg, splice, Nat.reduceLeDiff, part, fillA, fillE, Nat.reduceLT]
      generalize M ++ [Blk.cells true [[u]]] ++ [Blk.cells true [[V.int .u64 key]]] ++ g4 = M2 at hub1 hvk2 htk2 hgk2
      clear hub
      have hbt : ∀ g, (M2 ++ [Blk.cells true [[ub]]] ++ g)[M2.length]? = some (.cells true [[ub]]) := fun g => getElem?_grow (by simp)
      refine (Get_spec key hub1.app hbl).mono ?_
      rintro _ _ ⟨rfl, g5, rfl⟩
      have hg1 : getL (delL (putL l key val).1 [key]).1 key = (0, 3) := by
        rcases getL_valid d1 hk with ⟨v', _, h⟩ | ⟨h, _⟩
        · exact absurd rfl ((d3 key v').1 h).1
        · exact h
      have ht3 : (M2 ++ [Blk.cells true [[ub]]] ++ g5)[m.length]? = some (.cells true [[v]]) := getElem?_grow (getElem?_grow htk2)
      simp (maxDischargeDepth := 30) only [aft_mk, hg1, load_at0 ht3, amL, args0, Nat.reduceEqDiff, reduceCtorEq, ↓reduceIte, Nat.reduceAdd, resultsA, results1, Int.reduceNeg, splice, Nat.reduceLeDiff, part, fillA, fillE, Nat.reduceLT]
      refine (Get_spec other hvk2.app.app (by omega)).mono ?_
      rintro _ _ ⟨rfl, g6, rfl⟩
      have hb6 : (M2 ++ [Blk.cells true [[ub]]] ++ g5 ++ g6)[M2.length]? = some (.cells true [[ub]]) := getElem?_grow (hbt g5)
      simp (maxDischargeDepth := 30) only [aft_mk, hg1, load_at0 hb6, amL, args0, Nat.reduceEqDiff, reduceCtorEq, ↓reduceIte, Nat.reduceAdd, resultsA, results1, Int.reduceNeg, splice, Nat.reduceLeDiff, part, fillA, fillE, Nat.reduceLT]
      refine (Get_spec other hub1.app.app.app hbl).mono ?_
      rintro _ _ ⟨rfl, g7, rfl⟩
      have hb7 : (M2 ++ [Blk.cells true [[ub]]] ++ g5 ++ g6 ++ g7)[M2.length]? = some (.cells true [[ub]]) := getElem?_grow hb6
      have hgo : ¬ other = key → getL l other = getL (delL (putL l key val).1 [key]).1 other := fun hne => by
        refine getL_eq hval d1 fun v' => ?_
        rw [d3, phas]
        simp [hne]
      by_cases ho : other = key
      · simp (maxDischargeDepth := 30) only [aft_mk, hg1, ho, load_at0 hb7, amL, args0, Nat.reduceEqDiff, reduceCtorEq, ↓reduceIte, Nat.reduceAdd, resultsA, results1, Int.reduceNeg, splice, Nat.reduceLeDiff, part, fillA, fillE, Nat.reduceLT]
        refine (Check_spec hub1.app.app.app.app hbl).mono ?_
        rintro _ _ ⟨rfl, g8, rfl⟩
        simp (maxDischargeDepth := 30) only [aft_mk, d1, amL, args0, Nat.reduceEqDiff, reduceCtorEq, ↓reduceIte, Nat.reduceAdd, resultsA, results1, Int.reduceNeg, splice, Nat.reduceLeDiff, part, fillA, fillE, Nat.reduceLT]
        exact hgk2.app.app.app.app.app
      · simp (maxDischargeDepth := 30) only [aft_mk, hg1, ho, load_at0 hb7, hgo ho, amL, args0, Nat.reduceEqDiff, reduceCtorEq, ↓reduceIte, Nat.reduceAdd, resultsA, results1, Int.reduceNeg, splice, Nat.reduceLeDiff, part, fillA, fillE, Nat.reduceLT]
        refine (Check_spec hub1.app.app.app.app hbl).mono ?_
        rintro _ _ ⟨rfl, g8, rfl⟩
        simp (maxDischargeDepth := 30) only [aft_mk, d1, amL, args0, Nat.reduceEqDiff, reduceCtorEq, ↓reduceIte, Nat.reduceAdd, resultsA, results1, Int.reduceNeg, splice, Nat.reduceLeDiff, part, fillA, fillE, Nat.reduceLT]
        exact hgk2.app.app.app.app.app
    · rw [p1] at huM
      have c1 : ¬ (6 : Int) = 0 := by omega
      have c2 : ¬ (6 : Int) = 2 := by omega
      simp (maxDischargeDepth := 30) only [aft_mk, p2, c1, c2, load_at0 htk, amL, args0, Nat.reduceEqDiff, reduceCtorEq, ↓reduceIte, Nat.reduceAdd, resultsA, results1, Int.reduceNeg, splice, Nat.reduceLeDiff, part, fillA, fillE, Nat.reduceLT]
      refine (Same_spec hvM huM hl).mono ?_
      rintro _ _ ⟨rfl, g2, rfl⟩
      simp (maxDischargeDepth := 30) only [aft_mk, c2, amL, args0, Nat.reduceEqDiff, reduceCtorEq, ↓reduceIte, Nat.reduceAdd, resultsA, results1, Int.reduceNeg, splice, Nat.reduceLeDiff, part, fillA, fillE, Nat.reduceLT]
      exact hgk.app.app
  · have hp : putL l key val = ([], 2) := by simp [putL, hval]
    have c1 : ¬ (2 : Int) = 0 := by omega
    simp (maxDischargeDepth := 30) only [aft_mk, hp, c1, amL, args0, Nat.reduceEqDiff, reduceCtorEq, ↓reduceIte, Nat.reduceAdd, resultsA, results1, Int.reduceNeg, splice, Nat.reduceLeDiff, part, fillA, fillE, Nat.reduceLT]
    exact hgk.app
end Go.AM.G

set_option maxRecDepth 100000
namespace Go.AM.G
open Go Go.AM
theorem valid_len {l : List Slot} (h : validB l = true) : l.length ≤ 64 := by
  rcases valid_cases h with h | ⟨h, _⟩
  · omega
  · have := h.le; omega
theorem full_tail {m M : Mem} {B : Nat} {u : V} {t : List Slot} (more : Int) (hB : M[B]? = some (.cells true [[u]])) (hu : Sl M u 3 (encs t)) (hg : Grow m M) (hval : validB t = true) (hc : cnt 1 t ≤ 31) :
    C S n_ephem_Put [.agg [u], .int .u64 more, .int .u64 1] M (fun r m' => ∃ v', (r = .tup [.agg [v'], .int .i64 0] ∨ more = 0 ∧ ∃ e : Int, r = .tup [.agg [v'], .int .i64 e] ∧ e ≠ 0) ∧ v'.isCell = true ∧ Grow m m') := by
  have hlen := valid_len hval
  refine (Put_spec more 1 hu (by omega)).mono ?_
  rintro _ _ ⟨v', rfl, ⟨g, rfl⟩, hv'⟩
  refine ⟨v', ?_, hv'.1.cell, hg.app⟩
  by_cases hm : more = 0
  · have : putL t more 1 = (t, 7) := by simp [putL, hval, hm]
    rw [this]
    exact .inr ⟨hm, _, rfl, show (7 : Int) ≠ 0 by decide⟩
  · rcases putL_valid (v := 1) hval hm with ⟨p2, _⟩ | ⟨_, _, h⟩
    · rw [p2]; exact .inl rfl
    · have := sizeL_cases (cnt 1 t); omega
theorem full_spec {m : Mem} {w : V} {keys : List Int} (more : Int) (hw : Sl m w 1 (ints keys)) (hkl : keys.length < 2 ^ 60) : C S n_law10_EphemFull [w, .int .u64 more] m (fun r m' => r = .bool true ∧ Grow m m') := by
  refine C_body rfl rfl rfl ?_
  unfold law10_EphemFull
  simp (maxDischargeDepth := 30) only [amL, args0, Nat.reduceEqDiff, reduceCtorEq, ↓reduceIte, Nat.reduceAdd, resultsA, results1, Int.reduceNeg, splice, Nat.reduceLeDiff, part, fillA, fillE, Nat.reduceLT]
  refine lives_spec.mono ?_
  rintro _ _ ⟨rfl, rfl⟩
  have hlk : (ints keys).length = keys.length := by simp
  simp (maxDischargeDepth := 30) only [aft_mk, hw.len, hlk, amL, args0, Nat.reduceEqDiff, reduceCtorEq, ↓reduceIte, Nat.reduceAdd, resultsA, results1, Int.reduceNeg, splice, Nat.reduceLeDiff, part, fillA, fillE, Nat.reduceLT]
  let I := fun (n : Nat) (fr : Frame) (M : Mem) => ∃ (i : Nat) (u : V) (t : List Slot), i ≤ keys.length ∧ i ≤ 31 ∧ n = keys.length - i ∧ fr 1 = .int .u64 more ∧ fr 5 = .ptr m.length 0 0 ∧ fr 15 = w ∧ fr 16 = .int .i64 keys.length ∧ fr 17 = .int .i64 i ∧ Grow m M ∧ M[m.length]? = some (.cells true [[u]]) ∧ Sl M u 3 (encs t) ∧ validB t = true ∧ cnt 1 t ≤ i
  refine W_loop I ?_ keys.length ?_
  · rintro n fr M ⟨i, u, t, hi, hi31, rfl, f1, f5, f15, f16, f17, hg, hB, hu, hval, hc⟩
    have huc := hu.cell
    unfold law10_EphemFull_l0
    simp (maxDischargeDepth := 30) only [f1, f5, f15, f16, f17, amL, args0, Nat.reduceEqDiff, reduceCtorEq, ↓reduceIte, Nat.reduceAdd, resultsA, results1, Int.reduceNeg, splice, Nat.reduceLeDiff, part, fillA, fillE, Nat.reduceLT]
    first | (refine O_split (by simp only [put_apply, Nat.reduceEqDiff, ↓reduceIte, reduceCtorEq]; rfl) (fun h => ?_) (fun h => ?_) <;> simp only [decide_eq_true_eq, decide_eq_false_iff_not, Decidable.not_not, Bool.and_eq_true, Bool.not_eq_true', Bool.not_eq_false'] at h) | (refine W_split (by simp only [get_t, put_apply, Nat.reduceEqDiff, ↓reduceIte, reduceCtorEq]; rfl) (fun h => ?_) (fun h => ?_) <;> simp only [decide_eq_true_eq, decide_eq_false_iff_not, Decidable.not_not, Bool.and_eq_true, Bool.not_eq_true', Bool.not_eq_false'] at h)
    · have hil : i < keys.length := by omega
      obtain ⟨k, hk⟩ : ∃ k, keys[i]? = some k := ⟨_, List.getElem?_eq_getElem hil⟩
      have hwl := hw.grow hg
      have ix := hwl.index (ki := .i64) (n := i) (by omega) (by omega)
      have ld := fun o j => hwl.load (o := o) (k := j) (i := i) (el := [.int .u64 k]) (by simp [hk])
      simp only [Int.toNat_natCast] at ix ld
      by_cases h31 : i = 31
      · have h31' : ((i : Int) = 31) = True := eq_true (by omega)
        simp (maxDischargeDepth := 30) only [h, f1, f5, f15, f16, f17, ix, ld, h31', load_at0 hB, amL, args0, Nat.reduceEqDiff, reduceCtorEq, ↓reduceIte, Nat.reduceAdd, resultsA, results1, Int.reduceNeg, splice, Nat.reduceLeDiff, part, fillA, fillE, Nat.reduceLT]
        refine (full_tail more hB hu hg hval (by omega)).mono ?_
        rintro _ _ ⟨v', h1 | ⟨h0, e, h1, h2⟩, hc', hg'⟩ <;> subst h1
        · simp (maxDischargeDepth := 30) only [aft_mk, hc', amL, args0, Nat.reduceEqDiff, reduceCtorEq, ↓reduceIte, Nat.reduceAdd, resultsA, results1, Int.reduceNeg, splice, Nat.reduceLeDiff, part, fillA, fillE, Nat.reduceLT]; exact hg'.app
        · simp (maxDischargeDepth := 30) only [aft_mk, hc', h0, h2, f1, amL, args0, Nat.reduceEqDiff, reduceCtorEq, ↓reduceIte, Nat.reduceAdd, resultsA, results1, Int.reduceNeg, splice, Nat.reduceLeDiff, part, fillA, fillE, Nat.reduceLT]; exact hg'.app
      have h31' : ¬ (i : Int) = 31 := by omega
      have w1 : IntKind.i64.wrap ((i : Int) + 1) = ((i + 1 : Nat) : Int) := by rw [wrap_i64] <;> omega
      have hlen := valid_len hval
      simp (maxDischargeDepth := 30) only [h, f1, f5, f15, f16, f17, ix, ld, h31', load_at0 hB, amL, args0, Nat.reduceEqDiff, reduceCtorEq, ↓reduceIte, Nat.reduceAdd, resultsA, results1, Int.reduceNeg, splice, Nat.reduceLeDiff, part, fillA, fillE, Nat.reduceLT]
      refine (Put_spec k k hu (by omega)).mono ?_
      rintro _ M1 ⟨v', rfl, hg1, hv'⟩
      have hv1 := hv'.1
      have hvc := hv1.cell
      have hB1 := hg1.get hB
      have hu1 := hu.grow hg1
      have hgm := hg.trans hg1
      have l1 := fun k => load_at0 (M := M1 ++ [Blk.cells true [[v']]]) (b := M1.length) (own := true) (el := [v']) (k := k) (j := 0) (by simp)
      by_cases hk0 : k = 0
      · subst hk0
        have hp : putL t 0 0 = (t, 7) := by simp [putL, hval]
        have c7 : ¬ (7 : Int) = 0 := by omega
        simp (maxDischargeDepth := 30) only [aft_mk, hp, hvc, f1, f5, f15, f16, f17, c7, w1, amL, args0, Nat.reduceEqDiff, reduceCtorEq, ↓reduceIte, Nat.reduceAdd, resultsA, results1, Int.reduceNeg, splice, Nat.reduceLeDiff, part, fillA, fillE, Nat.reduceLT]
        refine ⟨_, ?_, i + 1, u, t, by omega, by omega, rfl, ?_, ?_, ?_, ?_, ?_, hgm.app, getElem?_grow hB1, hu1.app, hval, by omega⟩
        · omega
        all_goals simp (maxDischargeDepth := 30) only [f1, f5, f15, f16, f17, amL, args0, Nat.reduceEqDiff, reduceCtorEq, ↓reduceIte, Nat.reduceAdd, resultsA, results1, Int.reduceNeg, splice, Nat.reduceLeDiff, part, fillA, fillE, Nat.reduceLT]
      · rcases putL_valid (v := k) hval hk0 with ⟨p2, pv, _, _, pc⟩ | ⟨_, _, hh⟩
        · have hB2 : (M1 ++ [Blk.cells true [[v']]])[m.length]? = some (.cells true [[u]]) := getElem?_grow hB1
          have s1 := store_at0 (x := .agg [v']) (j := 0) (n := 1) hB2 rfl (by simp) (by simp [cells_agg, hvc])
          simp only [cells_agg, splice, List.take_zero, List.nil_append, List.cons_append, List.length_cons, List.length_nil, Nat.zero_add, List.drop_succ_cons, List.drop_nil] at s1
          have hml := (List.getElem?_eq_some_iff.1 hB2).1
          simp (maxDischargeDepth := 30) only [aft_mk, p2, hvc, f1, f5, f15, f16, f17, w1, l1, s1, amL, args0, Nat.reduceEqDiff, reduceCtorEq, ↓reduceIte, Nat.reduceAdd, resultsA, results1, Int.reduceNeg, splice, Nat.reduceLeDiff, part, fillA, fillE, Nat.reduceLT]
          refine ⟨_, ?_, i + 1, v', _, by omega, by omega, rfl, ?_, ?_, ?_, ?_, ?_, hgm.app.set (Nat.le_refl _) _, List.getElem?_set_self hml, ?_, pv, by omega⟩
          · omega
          · simp (maxDischargeDepth := 30) only [f1, amL, args0, Nat.reduceEqDiff, reduceCtorEq, ↓reduceIte, Nat.reduceAdd, resultsA, results1, Int.reduceNeg, splice, Nat.reduceLeDiff, part, fillA, fillE, Nat.reduceLT]
          · simp (maxDischargeDepth := 30) only [f5, amL, args0, Nat.reduceEqDiff, reduceCtorEq, ↓reduceIte, Nat.reduceAdd, resultsA, results1, Int.reduceNeg, splice, Nat.reduceLeDiff, part, fillA, fillE, Nat.reduceLT]
          · simp (maxDischargeDepth := 30) only [f15, amL, args0, Nat.reduceEqDiff, reduceCtorEq, ↓reduceIte, Nat.reduceAdd, resultsA, results1, Int.reduceNeg, splice, Nat.reduceLeDiff, part, fillA, fillE, Nat.reduceLT]
          · simp (maxDischargeDepth := 30) only [f16, amL, args0, Nat.reduceEqDiff, reduceCtorEq, ↓reduceIte, Nat.reduceAdd, resultsA, results1, Int.reduceNeg, splice, Nat.reduceLeDiff, part, fillA, fillE, Nat.reduceLT]
          · simp (maxDischargeDepth := 30) only [amL, args0, Nat.reduceEqDiff, reduceCtorEq, ↓reduceIte, Nat.reduceAdd, resultsA, results1, Int.reduceNeg, splice, Nat.reduceLeDiff, part, fillA, fillE, Nat.reduceLT]
          · refine (hv1.app).set_other encs_z hB2 (by simp) rfl
        · have := sizeL_cases (cnt 1 t); omega
    · simp (maxDischargeDepth := 30) only [h, f1, f5, f15, f16, f17, load_at0 hB, amL, args0, Nat.reduceEqDiff, reduceCtorEq, ↓reduceIte, Nat.reduceAdd, resultsA, results1, Int.reduceNeg, splice, Nat.reduceLeDiff, part, fillA, fillE, Nat.reduceLT]
      refine (full_tail more hB hu hg hval (by omega)).mono ?_
      rintro _ _ ⟨v', h1 | ⟨h0, e, h1, h2⟩, hc', hg'⟩ <;> subst h1
      · simp (maxDischargeDepth := 30) only [aft_mk, hc', amL, args0, Nat.reduceEqDiff, reduceCtorEq, ↓reduceIte, Nat.reduceAdd, resultsA, results1, Int.reduceNeg, splice, Nat.reduceLeDiff, part, fillA, fillE, Nat.reduceLT]; exact hg'.app
      · simp (maxDischargeDepth := 30) only [aft_mk, hc', h0, h2, f1, amL, args0, Nat.reduceEqDiff, reduceCtorEq, ↓reduceIte, Nat.reduceAdd, resultsA, results1, Int.reduceNeg, splice, Nat.reduceLeDiff, part, fillA, fillE, Nat.reduceLT]; exact hg'.app
  · refine ⟨0, .nils, [], by omega, by omega, rfl, by simp (maxDischargeDepth := 30) only [amL, args0, Nat.reduceEqDiff, reduceCtorEq, ↓reduceIte, Nat.reduceAdd, resultsA, results1, Int.reduceNeg, splice, Nat.reduceLeDiff, part, fillA, fillE, Nat.reduceLT], by simp (maxDischargeDepth := 30) only [amL, args0, Nat.reduceEqDiff, reduceCtorEq, ↓reduceIte, Nat.reduceAdd, resultsA, results1, Int.reduceNeg, splice, Nat.reduceLeDiff, part, fillA, fillE, Nat.reduceLT], by simp (maxDischargeDepth := 30) only [amL, args0, Nat.reduceEqDiff, reduceCtorEq, ↓reduceIte, Nat.reduceAdd, resultsA, results1, Int.reduceNeg, splice, Nat.reduceLeDiff, part, fillA, fillE, Nat.reduceLT], by simp (maxDischargeDepth := 30) only [amL, args0, Nat.reduceEqDiff, reduceCtorEq, ↓reduceIte, Nat.reduceAdd, resultsA, results1, Int.reduceNeg, splice, Nat.reduceLeDiff, part, fillA, fillE, Nat.reduceLT], by simp (maxDischargeDepth := 30) only [amL, args0, Nat.reduceEqDiff, reduceCtorEq, ↓reduceIte, Nat.reduceAdd, resultsA, results1, Int.reduceNeg, splice, Nat.reduceLeDiff, part, fillA, fillE, Nat.reduceLT]; rfl, (Grow.refl _).app, by simp, ⟨rfl, rfl⟩, rfl, by simp [cnt]⟩
end Go.AM.G
