/- Part of the proof: contracts of functions of the given program on an abstract machine. -/
import Derived.Test.YtdfbfcohindpnaaEphemI
import Derived.Test.YtdfbfcohindpnaaEphemQ
set_option linter.unusedVariables false
set_option linter.unusedSimpArgs false
set_option maxRecDepth 100000
namespace Go.AM.G
open Go Go.AM
theorem back_spec {m : Mem} {v : V} {l : List Slot} (key val other : Int) (hv : Sl m v 3 (encs l)) (hl : l.length < 5864062014806) : C S n_law10_EphemBack [.agg [v], .int .u64 key, .int .u64 val, .int .u64 other] m (fun r m' => r = .bool true ∧ Grow m m') := by
  refine C_body rfl rfl rfl ?_
  unfold law10_EphemBack
  have hcell := hv.cell
  simp (maxDischargeDepth := 30) only [hcell, amL, args0, Nat.reduceEqDiff, reduceCtorEq, ↓reduceIte, Nat.reduceAdd, resultsA, results1, Int.reduceNeg, splice, Nat.reduceLeDiff, part, fillA, fillE, Nat.reduceLT]
  refine lives_spec.mono ?_
  rintro _ _ ⟨rfl, rfl⟩
  simp (maxDischargeDepth := 30) only [aft_mk, hcell, amL, args0, Nat.reduceEqDiff, reduceCtorEq, ↓reduceIte, Nat.reduceAdd, resultsA, results1, Int.reduceNeg, splice, Nat.reduceLeDiff, part, fillA, fillE, Nat.reduceLT]
  refine (Put_spec key val hv.app hl).mono ?_
  rintro _ _ ⟨u, rfl, ⟨g, rfl⟩, hu⟩
  have huc := hu.1.cell
  have htk : (m ++ [Blk.cells true [[v]]] ++ g)[m.length]? = some (.cells true [[v]]) := getElem?_grow (by simp)
  have hvk : Sl (m ++ [Blk.cells true [[v]]] ++ g) v 3 (encs l) := hv.app.app
  have hgk : Grow m (m ++ [Blk.cells true [[v]]] ++ g) := (Grow.refl _).app.app
  have hu1 := hu.1
  simp (maxDischargeDepth := 30) only [aft_mk, hcell, huc, amL, args0, Nat.reduceEqDiff, reduceCtorEq, ↓reduceIte, Nat.reduceAdd, resultsA, results1, Int.reduceNeg, splice, Nat.reduceLeDiff, part, fillA, fillE, Nat.reduceLT]
  generalize m ++ [Blk.cells true [[v]]] ++ g = M at hu1 htk hvk hgk
  clear hu
  have hvM : Sl (M ++ [Blk.cells true [[u]]]) v 3 (encs l) := hvk.app
  have huM : Sl (M ++ [Blk.cells true [[u]]]) u 3 (encs (putL l key val).1) := hu1.app
  have hlen : (putL l key val).1.length ≤ l.length + 64 := putL_len
  by_cases hval : validB l = true
  · by_cases hk : key = 0
    · have hp : putL l key val = (l, 7) := by simp [putL, hval, hk]
      rw [hp] at huM
      have c1 : ¬ (7 : Int) = 0 := by omega
      have c2 : ¬ (7 : Int) = 2 := by omega
      simp (maxDischargeDepth := 30) only [aft_mk, hp, c1, c2, load_at0 htk, amL, args0, Nat.reduceEqDiff, reduceCtorEq, ↓reduceIte, Nat.reduceAdd, resultsA, results1, Int.reduceNeg, splice, Nat.reduceLeDiff, part, fillA, fillE, Nat.reduceLT]
      refine (Same_spec hvM huM hl).mono ?_
      rintro _ _ ⟨rfl, g2, rfl⟩
      simp (maxDischargeDepth := 30) only [aft_mk, c2, amL, args0, Nat.reduceEqDiff, reduceCtorEq, ↓reduceIte, Nat.reduceAdd, resultsA, results1, Int.reduceNeg, splice, Nat.reduceLeDiff, part, fillA, fillE, Nat.reduceLT]
      exact hgk.app.app
    rcases putL_valid (v := val) hval hk with ⟨p2, pv, pok, phas, _⟩ | ⟨p2, p1, _⟩
    · simp (maxDischargeDepth := 30) only [aft_mk, p2, amL, args0, Nat.reduceEqDiff, reduceCtorEq, ↓reduceIte, Nat.reduceAdd, resultsA, results1, Int.reduceNeg, splice, Nat.reduceLeDiff, part, fillA, fillE, Nat.reduceLT]
      have hw : ∀ M : Mem, Sl (M ++ [Blk.cells true [[V.int .u64 key]]]) (.slice M.length 0 1 1 true 1) 1 (ints [key]) := fun M => Sl.mk (els := ints [key]) (own := true) (by simp)
      refine (Del_spec (keys := [key]) huM.app (hw _) ?_ (by simp)).mono ?_
      · rcases valid_cases pv with h | ⟨h, _⟩
        · omega
        · have := h.le; omega
      rintro _ _ ⟨ub, rfl, ⟨g4, rfl⟩, hub⟩
      have hubc := hub.1.cell
      obtain ⟨d1, d2, d3, d4⟩ := delL_valid (k := key) pv
      have hn1 : (delL (putL l key val).1 [key]).2.1 = 1 := by
        rcases d4 with ⟨_, h⟩ | ⟨h, _⟩
        · exact h
        · exact absurd ((phas key val).2 (by rw [if_pos rfl])) (h val)
      have hbl : (delL (putL l key val).1 [key]).1.length < 2 ^ 60 := by
        rcases valid_cases d1 with h | ⟨h, _⟩
        · omega
        · have := h.le; omega
      have hub1 := hub.1
      have hvk2 := (hvM.app (g := [Blk.cells true [[V.int .u64 key]]])).app (g := g4)
      have htk2 : (M ++ [Blk.cells true [[u]]] ++ [Blk.cells true [[V.int .u64 key]]] ++ g4)[m.length]? = some (.cells true [[v]]) := getElem?_grow (getElem?_grow (getElem?_grow htk))
      have hgk2 : Grow m (M ++ [Blk.cells true [[u]]] ++ [Blk.cells true [[V.int .u64 key]]] ++ g4) := hgk.app.app.app
      simp (maxDischargeDepth := 30) only [aft_mk, hubc, d2, hn1, amL, args0, Nat.reduceEqDiff, reduceCtorEq, ↓reduceIte, Nat.reduceAdd, resultsA, results1, Int.reduceNeg, splice, Nat.reduceLeDiff, part, fillA, fillE, Nat.reduceLT]
      generalize M ++ [Blk.cells true [[u]]] ++ [Blk.cells true [[V.int .u64 key]]] ++ g4 = M2 at hub1 hvk2 htk2 hgk2
      clear hub
      have hbt : ∀ g, (M2 ++ [Blk.cells true [[ub]]] ++ g)[M2.length]? = some (.cells true [[ub]]) := fun g => getElem?_grow (by simp)
      refine (Get_spec key hub1.app hbl).mono ?_
      rintro _ _ ⟨rfl, g5, rfl⟩
      have hg1 : getL (delL (putL l key val).1 [key]).1 key = (0, 3) := by
        rcases getL_valid d1 hk with ⟨v', _, h⟩ | ⟨h, _⟩
        · exact absurd rfl ((d3 key v').1 h).1
        · exact h
      have ht3 : (M2 ++ [Blk.cells true [[ub]]] ++ g5)[m.length]? = some (.cells true [[v]]) := getElem?_grow (getElem?_grow htk2)
      simp (maxDischargeDepth := 30) only [aft_mk, hg1, load_at0 ht3, amL, args0, Nat.reduceEqDiff, reduceCtorEq, ↓reduceIte, Nat.reduceAdd, resultsA, results1, Int.reduceNeg, splice, Nat.reduceLeDiff, part, fillA, fillE, Nat.reduceLT]
      refine (Get_spec other hvk2.app.app (by omega)).mono ?_
      rintro _ _ ⟨rfl, g6, rfl⟩
      have hb6 : (M2 ++ [Blk.cells true [[ub]]] ++ g5 ++ g6)[M2.length]? = some (.cells true [[ub]]) := getElem?_grow (hbt g5)
      simp (maxDischargeDepth := 30) only [aft_mk, hg1, load_at0 hb6, amL, args0, Nat.reduceEqDiff, reduceCtorEq, ↓reduceIte, Nat.reduceAdd, resultsA, results1, Int.reduceNeg, splice, Nat.reduceLeDiff, part, fillA, fillE, Nat.reduceLT]
      refine (Get_spec other hub1.app.app.app hbl).mono ?_
      rintro _ _ ⟨rfl, g7, rfl⟩
      have hb7 : (M2 ++ [Blk.cells true [[ub]]] ++ g5 ++ g6 ++ g7)[M2.length]? = some (.cells true [[ub]]) := getElem?_grow hb6
      have hgo : ¬ other = key → getL l other = getL (delL (putL l key val).1 [key]).1 other := fun hne => by
        refine getL_eq hval d1 fun v' => ?_
        rw [d3, phas]
        simp [hne]
      by_cases ho : other = key
      · simp (maxDischargeDepth := 30) only [aft_mk, hg1, ho, load_at0 hb7, amL, args0, Nat.reduceEqDiff, reduceCtorEq, ↓reduceIte, Nat.reduceAdd, resultsA, results1, Int.reduceNeg, splice, Nat.reduceLeDiff, part, fillA, fillE, Nat.reduceLT]
        refine (Check_spec hub1.app.app.app.app hbl).mono ?_
        rintro _ _ ⟨rfl, g8, rfl⟩
        simp (maxDischargeDepth := 30) only [aft_mk, d1, amL, args0, Nat.reduceEqDiff, reduceCtorEq, ↓reduceIte, Nat.reduceAdd, resultsA, results1, Int.reduceNeg, splice, Nat.reduceLeDiff, part, fillA, fillE, Nat.reduceLT]
        exact hgk2.app.app.app.app.app
      · simp (maxDischargeDepth := 30) only [aft_mk, hg1, ho, load_at0 hb7, hgo ho, amL, args0, Nat.reduceEqDiff, reduceCtorEq, ↓reduceIte, Nat.reduceAdd, resultsA, results1, Int.reduceNeg, splice, Nat.reduceLeDiff, part, fillA, fillE, Nat.reduceLT]
        refine (Check_spec hub1.app.app.app.app hbl).mono ?_
        rintro _ _ ⟨rfl, g8, rfl⟩
        simp (maxDischargeDepth := 30) only [aft_mk, d1, amL, args0, Nat.reduceEqDiff, reduceCtorEq, ↓reduceIte, Nat.reduceAdd, resultsA, results1, Int.reduceNeg, splice, Nat.reduceLeDiff, part, fillA, fillE, Nat.reduceLT]
        exact hgk2.app.app.app.app.app
    · rw [p1] at huM
      have c1 : ¬ (6 : Int) = 0 := by omega
      have c2 : ¬ (6 : Int) = 2 := by omega
      simp (maxDischargeDepth := 30) only [aft_mk, p2, c1, c2, load_at0 htk, amL, args0, Nat.reduceEqDiff, reduceCtorEq, ↓reduceIte, Nat.reduceAdd, resultsA, results1, Int.reduceNeg, splice, Nat.reduceLeDiff, part, fillA, fillE, Nat.reduceLT]
      refine (Same_spec hvM huM hl).mono ?_
      rintro _ _ ⟨rfl, g2, rfl⟩
      simp (maxDischargeDepth := 30) only [aft_mk, c2, amL, args0, Nat.reduceEqDiff, reduceCtorEq, ↓reduceIte, Nat.reduceAdd, resultsA, results1, Int.reduceNeg, splice, Nat.reduceLeDiff, part, fillA, fillE, Nat.reduceLT]
      exact hgk.app.app
  · have hp : putL l key val = ([], 2) := by simp [putL, hval]
    have c1 : ¬ (2 : Int) = 0 := by omega
    simp (maxDischargeDepth := 30) only [aft_mk, hp, c1, amL, args0, Nat.reduceEqDiff, reduceCtorEq, ↓reduceIte, Nat.reduceAdd, resultsA, results1, Int.reduceNeg, splice, Nat.reduceLeDiff, part, fillA, fillE, Nat.reduceLT]
    exact hgk.app
end Go.AM.G
