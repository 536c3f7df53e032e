/- Part of the proof: contracts of functions of the given program on an abstract machine. -/
import Derived.Test.YtdfbfcohindpnaaEphemC
set_option linter.unusedVariables false
set_option linter.unusedSimpArgs false
set_option maxRecDepth 100000
namespace Go.AM.G
open Go Go.AM
theorem findF_spec {l : List Slot} {key : Int} : ∀ {f i : Nat} {g : Option Nat}, 0 < l.length → i < l.length → (∀ y, g = some y → y < l.length) → (findF l key f i g).1 < l.length ∧ ((findF l key f i g).2 = true → ∃ s : Slot, l[(findF l key f i g).1]? = some s ∧ s.st = 1 ∧ s.key = key)
  | 0, i, g, h0, hi, hg => ⟨hi, by simp [findF]⟩
  | f + 1, i, g, h0, hi, hg => by
    obtain ⟨s, hs⟩ : ∃ s, l[i]? = some s := ⟨_, List.getElem?_eq_getElem hi⟩
    simp only [findF, hs]
    split
    · refine ⟨?_, by simp⟩
      cases g with
      | none => exact hi
      | some y => exact hg y rfl
    · split
      · rename_i h
        exact ⟨hi, fun _ => ⟨s, hs, h.1, h.2⟩⟩
      · refine findF_spec h0 (Nat.mod_lt _ h0) ?_
        intro y hy
        split at hy
        · cases hy; exact hi
        · exact hg y hy
theorem findL_spec {l : List Slot} {key : Int} (hp : Pow l.length) : (findL l key).1 < l.length ∧ ((findL l key).2 = true → ∃ s : Slot, l[(findL l key).1]? = some s ∧ s.st = 1 ∧ s.key = key) := by
  have := hp.le
  obtain ⟨h0, h1⟩ := home_range (key := key) hp
  unfold findL
  rw [if_neg (by omega)]
  exact findF_spec (by omega) (by omega) (by simp)
theorem valid_cases {l : List Slot} (h : validB l = true) : l.length = 0 ∨ Pow l.length ∧ 0 < cnt 0 l := by
  simp only [validB, Bool.or_eq_true, Bool.and_eq_true, decide_eq_true_eq] at h
  rcases h with h | ⟨h1, h2, _⟩
  · exact .inl h
  · have := h1.le
    exact .inr ⟨h1, by omega⟩
def getL (l : List Slot) (key : Int) : Int × Int :=
  if validB l = true then
    if key = 0 then (0, 7) else
    if (findL l key).2 = true then (((l[(findL l key).1]?).map (·.val)).getD 0, 0) else (0, 3)
  else (0, 2)
theorem Get_spec {m : Mem} {v : V} {l : List Slot} (key : Int) (hv : Sl m v 3 (encs l)) (hlt : l.length < 2 ^ 60) : C S n_ephem_Get [.agg [v], .int .u64 key] m (fun r m' => r = .tup [.int .u64 (getL l key).1, .int .i64 (getL l key).2] ∧ Grow m m') := by
  refine C_body rfl rfl rfl ?_
  unfold ephem_Get
  have hcell := hv.cell
  simp (maxDischargeDepth := 30) only [hcell, amL, args0, Nat.reduceEqDiff, reduceCtorEq, ↓reduceIte, Nat.reduceAdd, resultsA, results1, Int.reduceNeg, splice, Nat.reduceLeDiff, part, fillA, fillE, Nat.reduceLT]
  refine (Check_spec hv.app hlt).mono ?_
  rintro _ _ ⟨rfl, g, rfl⟩
  by_cases hval : validB l = true
  · have c : ¬ ¬ (0 : Int) = 0 := by omega
    have hvc := valid_cases hval
    simp (maxDischargeDepth := 30) only [aft_mk, hval, hcell, c, amL, args0, Nat.reduceEqDiff, reduceCtorEq, ↓reduceIte, Nat.reduceAdd, resultsA, results1, Int.reduceNeg, splice, Nat.reduceLeDiff, part, fillA, fillE, Nat.reduceLT]
    refine (find_spec (v := v) (l := l) key (by simp (maxDischargeDepth := 30) only [amL, args0, Nat.reduceEqDiff, reduceCtorEq, ↓reduceIte, Nat.reduceAdd, resultsA, results1, Int.reduceNeg, splice, Nat.reduceLeDiff, part, fillA, fillE, Nat.reduceLT]) (by simp (maxDischargeDepth := 30) only [amL, args0, Nat.reduceEqDiff, reduceCtorEq, ↓reduceIte, Nat.reduceAdd, resultsA, results1, Int.reduceNeg, splice, Nat.reduceLeDiff, part, fillA, fillE, Nat.reduceLT]) hv.app.app.app hvc).mono ?_
    rintro _ _ ⟨rfl, g', rfl⟩
    by_cases hk : key = 0
    · simp (maxDischargeDepth := 30) only [aft_mk, hk, getL, hval, amL, args0, Nat.reduceEqDiff, reduceCtorEq, ↓reduceIte, Nat.reduceAdd, resultsA, results1, Int.reduceNeg, splice, Nat.reduceLeDiff, part, fillA, fillE, Nat.reduceLT]
      exact (Grow.refl _).app.app.app.app
    by_cases hf : (findL l key).2 = true
    · rcases hvc with h0 | ⟨hpow, _⟩
      · simp [findL, h0] at hf
      obtain ⟨hlt2, hfs⟩ := findL_spec (key := key) hpow
      obtain ⟨s, hs, hs1, hs2⟩ := hfs hf
      have hlen : (encs l).length = l.length := by simp
      have ix := hv.index (ki := .i64) (n := (findL l key).1) (by omega) (by omega)
      have ld := fun o k => hv.load (o := o) (k := k) (encs_get hs)
      simp only [Int.toNat_natCast, enc] at ix ld
      simp (maxDischargeDepth := 30) only [aft_mk, hk, hf, getL, hval, hcell, ix, ld, hs, Option.getD_some, amL, args0, Nat.reduceEqDiff, reduceCtorEq, ↓reduceIte, Nat.reduceAdd, resultsA, results1, Int.reduceNeg, splice, Nat.reduceLeDiff, part, fillA, fillE, Nat.reduceLT]
      exact (Grow.refl _).app.app.app.app
    · simp (maxDischargeDepth := 30) only [aft_mk, hk, hf, getL, hval, amL, args0, Nat.reduceEqDiff, reduceCtorEq, ↓reduceIte, Nat.reduceAdd, resultsA, results1, Int.reduceNeg, splice, Nat.reduceLeDiff, part, fillA, fillE, Nat.reduceLT]
      exact (Grow.refl _).app.app.app.app
  · have c : ¬ (2 : Int) = 0 := by omega
    simp (maxDischargeDepth := 30) only [aft_mk, hval, hcell, c, getL, amL, args0, Nat.reduceEqDiff, reduceCtorEq, ↓reduceIte, Nat.reduceAdd, resultsA, results1, Int.reduceNeg, splice, Nat.reduceLeDiff, part, fillA, fillE, Nat.reduceLT]
    exact (Grow.refl _).app.app
def homeL (key n : Int) : Int × Int := if Pow n then (homeI key n, 0) else (0, 4)
end Go.AM.G
