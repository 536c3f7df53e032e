/- The document's answer: has, places, Check, put, SamePlaces. -/
import Derived.Test.YtnpefpiggklimaaGraphWay
set_option linter.unusedVariables false
set_option linter.unusedSimpArgs false

set_option maxRecDepth 100000
namespace Go.AM.G
open Go Go.AM
theorem has_spec {m : Mem} {v : V} {l : List Int} (x : Int) (hv : SlR m v 1 (i64s l)) (hl : l.length < 2 ^ 60) : C S n_ref31_has [v, .int .i64 x] m (fun r m' => r = .bool (decide (x ∈ l)) ∧ m' = m) := by
  refine C_body rfl rfl rfl ?_
  unfold ref31_has
  have hlen : (i64s l).length = l.length := by simp
  simp (maxDischargeDepth := 30) only [hv.len, hlen, amL, args0, Nat.reduceEqDiff, reduceCtorEq, ↓reduceIte, Nat.reduceAdd, resultsA, results1, Int.reduceNeg, splice, Nat.reduceLeDiff, part, fillA, fillE, Nat.reduceLT]
  let I := fun (k : Nat) (fr : Frame) (M : Mem) => ∃ i : Nat, i ≤ l.length ∧ k = l.length - i ∧ fr 1 = .int .i64 x ∧ fr 7 = v ∧ fr 8 = .int .i64 l.length ∧ fr 9 = .int .i64 (i : Nat) ∧ M = m ∧ x ∉ l.take i
  refine W_loop I ?_ l.length ?_
  · rintro k fr M ⟨i, hi, rfl, f1, f7, f8, f9, rfl, hno⟩
    unfold ref31_has_l0
    simp (maxDischargeDepth := 30) only [f1, f7, f8, f9, amL, args0, Nat.reduceEqDiff, reduceCtorEq, ↓reduceIte, Nat.reduceAdd, resultsA, results1, Int.reduceNeg, splice, Nat.reduceLeDiff, part, fillA, fillE, Nat.reduceLT]
    by_cases hil : i < l.length
    · have hil' : (i : Int) < l.length := by omega
      obtain ⟨y, hy⟩ : ∃ y, l[i]? = some y := ⟨_, List.getElem?_eq_getElem hil⟩
      have ix := hv.index (ki := .i64) (n := i) (by omega) (by omega)
      have ld := fun o k => hv.load (o := o) (k := k) (i64s_get hy)
      simp only [Int.toNat_natCast] at ix
      have wi : IntKind.i64.wrap ((i : Int) + 1) = ((i + 1 : Nat) : Int) := by rw [wrap_i64] <;> omega
      by_cases e : y = x
      · have : x ∈ l := e ▸ List.mem_of_getElem? hy
        simp (maxDischargeDepth := 30) only [hil', f1, f7, f8, f9, ix, ld, e, this, decide_true, amL, args0, Nat.reduceEqDiff, reduceCtorEq, ↓reduceIte, Nat.reduceAdd, resultsA, results1, Int.reduceNeg, splice, Nat.reduceLeDiff, part, fillA, fillE, Nat.reduceLT]
      · simp (maxDischargeDepth := 30) only [hil', f1, f7, f8, f9, ix, ld, e, wi, amL, args0, Nat.reduceEqDiff, reduceCtorEq, ↓reduceIte, Nat.reduceAdd, resultsA, results1, Int.reduceNeg, splice, Nat.reduceLeDiff, part, fillA, fillE, Nat.reduceLT]
        refine ⟨_, ?_, i + 1, by omega, rfl, by simp (maxDischargeDepth := 30) only [f1, amL, args0, Nat.reduceEqDiff, reduceCtorEq, ↓reduceIte, Nat.reduceAdd, resultsA, results1, Int.reduceNeg, splice, Nat.reduceLeDiff, part, fillA, fillE, Nat.reduceLT], by simp (maxDischargeDepth := 30) only [f7, amL, args0, Nat.reduceEqDiff, reduceCtorEq, ↓reduceIte, Nat.reduceAdd, resultsA, results1, Int.reduceNeg, splice, Nat.reduceLeDiff, part, fillA, fillE, Nat.reduceLT], by simp (maxDischargeDepth := 30) only [f8, amL, args0, Nat.reduceEqDiff, reduceCtorEq, ↓reduceIte, Nat.reduceAdd, resultsA, results1, Int.reduceNeg, splice, Nat.reduceLeDiff, part, fillA, fillE, Nat.reduceLT], by simp (maxDischargeDepth := 30) only [amL, args0, Nat.reduceEqDiff, reduceCtorEq, ↓reduceIte, Nat.reduceAdd, resultsA, results1, Int.reduceNeg, splice, Nat.reduceLeDiff, part, fillA, fillE, Nat.reduceLT], rfl, fun hm => ?_⟩
        · omega
        · obtain ⟨h1, h2⟩ := List.getElem?_eq_some_iff.1 hy
          rw [List.take_succ_eq_append_getElem h1, h2, List.mem_append, List.mem_singleton] at hm
          rcases hm with hm | hm
          · exact hno hm
          · exact e hm.symm
    · have hil' : ¬ (i : Int) < l.length := by omega
      have hie : i = l.length := by omega
      rw [hie, List.take_length] at hno
      simp (maxDischargeDepth := 30) only [hil', f1, f7, f8, f9, hno, decide_false, amL, args0, Nat.reduceEqDiff, reduceCtorEq, ↓reduceIte, Nat.reduceAdd, resultsA, results1, Int.reduceNeg, splice, Nat.reduceLeDiff, part, fillA, fillE, Nat.reduceLT]
  · exact ⟨0, Nat.zero_le _, rfl, by simp (maxDischargeDepth := 30) only [amL, args0, Nat.reduceEqDiff, reduceCtorEq, ↓reduceIte, Nat.reduceAdd, resultsA, results1, Int.reduceNeg, splice, Nat.reduceLeDiff, part, fillA, fillE, Nat.reduceLT], by simp (maxDischargeDepth := 30) only [amL, args0, Nat.reduceEqDiff, reduceCtorEq, ↓reduceIte, Nat.reduceAdd, resultsA, results1, Int.reduceNeg, splice, Nat.reduceLeDiff, part, fillA, fillE, Nat.reduceLT], by simp (maxDischargeDepth := 30) only [amL, args0, Nat.reduceEqDiff, reduceCtorEq, ↓reduceIte, Nat.reduceAdd, resultsA, results1, Int.reduceNeg, splice, Nat.reduceLeDiff, part, fillA, fillE, Nat.reduceLT], by simp (maxDischargeDepth := 30) only [amL, args0, Nat.reduceEqDiff, reduceCtorEq, ↓reduceIte, Nat.reduceAdd, resultsA, results1, Int.reduceNeg, splice, Nat.reduceLeDiff, part, fillA, fillE, Nat.reduceLT]; rfl, rfl, by simp⟩
theorem places_spec {m : Mem} {v : V} {l : List Int} (n : Int) (hv : SlR m v 1 (i64s l)) (hl : l.length < 2 ^ 60) : C S n_ref31_places [v, .int .i64 n] m (fun r m' => r = .bool (risesB n (-1) l) ∧ m' = m) := by
  refine C_body rfl rfl rfl ?_
  unfold ref31_places
  have hlen : (i64s l).length = l.length := by simp
  simp (maxDischargeDepth := 30) only [hv.len, hlen, amL, args0, Nat.reduceEqDiff, reduceCtorEq, ↓reduceIte, Nat.reduceAdd, resultsA, results1, Int.reduceNeg, splice, Nat.reduceLeDiff, part, fillA, fillE, Nat.reduceLT]
  let I := fun (k : Nat) (fr : Frame) (M : Mem) => ∃ (i : Nat) (last : Int), i ≤ l.length ∧ k = l.length - i ∧ fr 0 = v ∧ fr 1 = .int .i64 n ∧ fr 7 = v ∧ fr 8 = .int .i64 l.length ∧ fr 9 = .int .i64 (i : Nat) ∧ M = m ∧ risesB n last (l.drop i) = risesB n (-1) l ∧ ((i = 0 ∧ last = -1) ∨ ∃ i', i = i' + 1 ∧ l[i']? = some last ∧ 0 ≤ last)
  refine W_loop I ?_ l.length ?_
  · rintro k fr M ⟨i, last, hi, rfl, f0, f1, f7, f8, f9, rfl, hr, hla⟩
    unfold ref31_places_l0
    simp (maxDischargeDepth := 30) only [f0, f1, f7, f8, f9, amL, args0, Nat.reduceEqDiff, reduceCtorEq, ↓reduceIte, Nat.reduceAdd, resultsA, results1, Int.reduceNeg, splice, Nat.reduceLeDiff, part, fillA, fillE, Nat.reduceLT]
    by_cases hil : i < l.length
    · have hil' : (i : Int) < l.length := by omega
      obtain ⟨y, hy⟩ : ∃ y, l[i]? = some y := ⟨_, List.getElem?_eq_getElem hil⟩
      have ix := hv.index (ki := .i64) (n := i) (by omega) (by omega)
      have ld := fun o k => hv.load (o := o) (k := k) (i64s_get hy)
      simp only [Int.toNat_natCast] at ix
      have wi : IntKind.i64.wrap ((i : Int) + 1) = ((i + 1 : Nat) : Int) := by rw [wrap_i64] <;> omega
      rw [risesB_drop hy] at hr
      have hla0 : -1 ≤ last := by rcases hla with ⟨_, rfl⟩ | ⟨_, _, _, h⟩ <;> omega
      by_cases h1 : y < 0
      · have : decide (last < y ∧ y < n) = false := by simp; omega
        rw [this, Bool.false_and] at hr
        simp (maxDischargeDepth := 30) only [hil', f0, f1, f7, f8, f9, ix, ld, h1, ← hr, amL, args0, Nat.reduceEqDiff, reduceCtorEq, ↓reduceIte, Nat.reduceAdd, resultsA, results1, Int.reduceNeg, splice, Nat.reduceLeDiff, part, fillA, fillE, Nat.reduceLT]
      by_cases h2 : n ≤ y
      · have : decide (last < y ∧ y < n) = false := by simp; omega
        rw [this, Bool.false_and] at hr
        simp (maxDischargeDepth := 30) only [hil', f0, f1, f7, f8, f9, ix, ld, h1, h2, ← hr, amL, args0, Nat.reduceEqDiff, reduceCtorEq, ↓reduceIte, Nat.reduceAdd, resultsA, results1, Int.reduceNeg, splice, Nat.reduceLeDiff, part, fillA, fillE, Nat.reduceLT]
      rcases hla with ⟨rfl, rfl⟩ | ⟨i', rfl, hl', h0⟩
      · have : decide ((-1 : Int) < y ∧ y < n) = true := by simp; omega
        rw [this, Bool.true_and] at hr
        have c0 : ¬ (0 : Int) < ((0 : Nat) : Int) := by omega
        simp (maxDischargeDepth := 30) only [hil', f0, f1, f7, f8, f9, ix, ld, h1, h2, c0, wi, amL, args0, Nat.reduceEqDiff, reduceCtorEq, ↓reduceIte, Nat.reduceAdd, resultsA, results1, Int.reduceNeg, splice, Nat.reduceLeDiff, part, fillA, fillE, Nat.reduceLT]
        refine ⟨_, ?_, 0 + 1, y, by omega, rfl, by simp (maxDischargeDepth := 30) only [f0, amL, args0, Nat.reduceEqDiff, reduceCtorEq, ↓reduceIte, Nat.reduceAdd, resultsA, results1, Int.reduceNeg, splice, Nat.reduceLeDiff, part, fillA, fillE, Nat.reduceLT], by simp (maxDischargeDepth := 30) only [f1, amL, args0, Nat.reduceEqDiff, reduceCtorEq, ↓reduceIte, Nat.reduceAdd, resultsA, results1, Int.reduceNeg, splice, Nat.reduceLeDiff, part, fillA, fillE, Nat.reduceLT], by simp (maxDischargeDepth := 30) only [f7, amL, args0, Nat.reduceEqDiff, reduceCtorEq, ↓reduceIte, Nat.reduceAdd, resultsA, results1, Int.reduceNeg, splice, Nat.reduceLeDiff, part, fillA, fillE, Nat.reduceLT], by simp (maxDischargeDepth := 30) only [f8, amL, args0, Nat.reduceEqDiff, reduceCtorEq, ↓reduceIte, Nat.reduceAdd, resultsA, results1, Int.reduceNeg, splice, Nat.reduceLeDiff, part, fillA, fillE, Nat.reduceLT], by simp (maxDischargeDepth := 30) only [amL, args0, Nat.reduceEqDiff, reduceCtorEq, ↓reduceIte, Nat.reduceAdd, resultsA, results1, Int.reduceNeg, splice, Nat.reduceLeDiff, part, fillA, fillE, Nat.reduceLT], rfl, hr, .inr ⟨0, rfl, hy, by omega⟩⟩
        omega
      · have c0 : (0 : Int) < ((i' + 1 : Nat) : Int) := by omega
        have wi' : IntKind.i64.wrap (((i' + 1 : Nat) : Int) - 1) = (i' : Int) := by rw [wrap_i64] <;> omega
        have ix2 := hv.index (ki := .i64) (n := i') (by omega) (by omega)
        have ld2 := fun o k => hv.load (o := o) (k := k) (i64s_get hl')
        simp only [Int.toNat_natCast] at ix2
        by_cases h3 : y ≤ last
        · have : decide (last < y ∧ y < n) = false := by simp; omega
          rw [this, Bool.false_and] at hr
          simp (maxDischargeDepth := 30) only [hil', f0, f1, f7, f8, f9, ix, ld, h1, h2, c0, wi', ix2, ld2, h3, ← hr, amL, args0, Nat.reduceEqDiff, reduceCtorEq, ↓reduceIte, Nat.reduceAdd, resultsA, results1, Int.reduceNeg, splice, Nat.reduceLeDiff, part, fillA, fillE, Nat.reduceLT]
        · have : decide (last < y ∧ y < n) = true := by simp; omega
          rw [this, Bool.true_and] at hr
          simp (maxDischargeDepth := 30) only [hil', f0, f1, f7, f8, f9, ix, ld, h1, h2, c0, wi', ix2, ld2, h3, wi, amL, args0, Nat.reduceEqDiff, reduceCtorEq, ↓reduceIte, Nat.reduceAdd, resultsA, results1, Int.reduceNeg, splice, Nat.reduceLeDiff, part, fillA, fillE, Nat.reduceLT]
          refine ⟨_, ?_, i' + 1 + 1, y, by omega, rfl, by simp (maxDischargeDepth := 30) only [f0, amL, args0, Nat.reduceEqDiff, reduceCtorEq, ↓reduceIte, Nat.reduceAdd, resultsA, results1, Int.reduceNeg, splice, Nat.reduceLeDiff, part, fillA, fillE, Nat.reduceLT], by simp (maxDischargeDepth := 30) only [f1, amL, args0, Nat.reduceEqDiff, reduceCtorEq, ↓reduceIte, Nat.reduceAdd, resultsA, results1, Int.reduceNeg, splice, Nat.reduceLeDiff, part, fillA, fillE, Nat.reduceLT], by simp (maxDischargeDepth := 30) only [f7, amL, args0, Nat.reduceEqDiff, reduceCtorEq, ↓reduceIte, Nat.reduceAdd, resultsA, results1, Int.reduceNeg, splice, Nat.reduceLeDiff, part, fillA, fillE, Nat.reduceLT], by simp (maxDischargeDepth := 30) only [f8, amL, args0, Nat.reduceEqDiff, reduceCtorEq, ↓reduceIte, Nat.reduceAdd, resultsA, results1, Int.reduceNeg, splice, Nat.reduceLeDiff, part, fillA, fillE, Nat.reduceLT], by simp (maxDischargeDepth := 30) only [amL, args0, Nat.reduceEqDiff, reduceCtorEq, ↓reduceIte, Nat.reduceAdd, resultsA, results1, Int.reduceNeg, splice, Nat.reduceLeDiff, part, fillA, fillE, Nat.reduceLT], rfl, hr, .inr ⟨i' + 1, rfl, hy, by omega⟩⟩
          omega
    · have hil' : ¬ (i : Int) < l.length := by omega
      have hie : i = l.length := by omega
      subst hie
      rw [List.drop_length] at hr
      simp (maxDischargeDepth := 30) only [hil', f0, f1, f7, f8, f9, ← hr, risesB, amL, args0, Nat.reduceEqDiff, reduceCtorEq, ↓reduceIte, Nat.reduceAdd, resultsA, results1, Int.reduceNeg, splice, Nat.reduceLeDiff, part, fillA, fillE, Nat.reduceLT]
  · exact ⟨0, -1, Nat.zero_le _, rfl, by simp (maxDischargeDepth := 30) only [amL, args0, Nat.reduceEqDiff, reduceCtorEq, ↓reduceIte, Nat.reduceAdd, resultsA, results1, Int.reduceNeg, splice, Nat.reduceLeDiff, part, fillA, fillE, Nat.reduceLT], by simp (maxDischargeDepth := 30) only [amL, args0, Nat.reduceEqDiff, reduceCtorEq, ↓reduceIte, Nat.reduceAdd, resultsA, results1, Int.reduceNeg, splice, Nat.reduceLeDiff, part, fillA, fillE, Nat.reduceLT], by simp (maxDischargeDepth := 30) only [amL, args0, Nat.reduceEqDiff, reduceCtorEq, ↓reduceIte, Nat.reduceAdd, resultsA, results1, Int.reduceNeg, splice, Nat.reduceLeDiff, part, fillA, fillE, Nat.reduceLT], by simp (maxDischargeDepth := 30) only [amL, args0, Nat.reduceEqDiff, reduceCtorEq, ↓reduceIte, Nat.reduceAdd, resultsA, results1, Int.reduceNeg, splice, Nat.reduceLeDiff, part, fillA, fillE, Nat.reduceLT], by simp (maxDischargeDepth := 30) only [amL, args0, Nat.reduceEqDiff, reduceCtorEq, ↓reduceIte, Nat.reduceAdd, resultsA, results1, Int.reduceNeg, splice, Nat.reduceLeDiff, part, fillA, fillE, Nat.reduceLT]; rfl, rfl, rfl, .inl ⟨rfl, rfl⟩⟩
/-- a slice that fills its own block. -/
def Ful (B : Nat) (M : Mem) (u : V) (z : Nat) (L : List (List V)) : Prop := (u = .nils ∧ L = []) ∨ ∃ b ex, B ≤ b ∧ u = .slice b 0 L.length L.length ex z ∧ M[b]? = some (.cells true L)
theorem Ful.gs {B z : Nat} {M : Mem} {u : V} {L : List (List V)} (h : Ful B M u z L) : GS B M u z L := by
  rcases h with h | ⟨b, ex, h1, h2, h3⟩
  · exact .inl h
  · exact .inr ⟨b, ex, L, h1, h2, h3, List.take_length⟩
theorem Ful.keep {B z : Nat} {M M' : Mem} {u : V} {L : List (List V)} (h : Ful B M u z L) (hk : ∀ c y, blkOf u = some c → M[c]? = some y → M'[c]? = some y) : Ful B M' u z L := by
  rcases h with h | ⟨b, ex, h1, rfl, h3⟩
  · exact .inl h
  · exact .inr ⟨b, ex, h1, rfl, hk b _ rfl h3⟩
/-- more at the end. -/
theorem Ful.pushs {B z : Nat} {M : Mem} {u w : V} {bytes : Nat} {L ys : List (List V)} {zero : List V} (h : Ful B M u z L) (hz : zero.length = z) (hw : Sl M w z ys) (hr : roomy (L.length + ys.length) bytes = true) (hB : B ≤ M.length) :
    ∃ u' M', appendV M zero bytes u w = some (u', M') ∧ Ful B M' u' z (L ++ ys) ∧ (∀ c y, blkOf u ≠ some c → M[c]? = some y → M'[c]? = some y) ∧ (blkOf u' = blkOf u ∨ blkOf u' = some M.length) ∧ M.length ≤ M'.length := by
  have he := hw.1
  have hzw := hw.2
  subst hz
  by_cases hy : ys = []
  · subst hy
    refine ⟨u, M, ?_, by rw [List.append_nil]; exact h, fun c y _ hy => hy, .inl rfl, Nat.le_refl _⟩
    rcases h with ⟨rfl, rfl⟩ | ⟨b, ex, h1, rfl, h3⟩
    · simp [appendV, elemsY_of he, hzw]
    · simp [appendV, elemsY_of he, hzw]
  have hne : ys.isEmpty = false := by cases ys <;> simp_all
  have hpos : 0 < ys.length := by cases ys <;> simp_all
  rcases h with ⟨rfl, rfl⟩ | ⟨b, ex, h1, rfl, h3⟩
  · have hr' : roomy ys.length bytes = true := by simpa using hr
    refine ⟨.slice M.length 0 ys.length ys.length false zero.length, M ++ [.cells true ys], ?_, .inr ⟨M.length, false, hB, by simp, by simp⟩, fun c y _ hy => getElem?_grow hy, .inr rfl, by simp⟩
    simp [appendV, elemsY_of he, hzw, hne, hr', hy, hpos]
  · have hbl := (List.getElem?_eq_some_iff.1 h3).1
    have hfit : ¬ L.length + ys.length ≤ L.length := by omega
    cases ex with
    | true =>
      refine ⟨.slice M.length 0 (L.length + ys.length) (L.length + ys.length) false zero.length, M ++ [.cells true (L ++ ys)], ?_, .inr ⟨M.length, false, hB, by simp, by simp⟩, fun c y _ hy => getElem?_grow hy, .inr rfl, by simp⟩
      simp [appendV, elemsY_of he, hzw, hne, h3, hr, hy, hpos]
    | false =>
      refine ⟨.slice M.length 0 (L.length + ys.length) (L.length + ys.length) false zero.length, M.set b .dead ++ [.cells true (L ++ ys)], ?_, .inr ⟨M.length, false, hB, by simp, ?_⟩, fun c y hc hy => ?_, .inr rfl, by simp⟩
      · simp [appendV, elemsY_of he, hzw, hne, h3, hr, hy, hpos]
      · rw [List.getElem?_append_right (by simp)]; simp
      · refine getElem?_grow ?_
        rw [List.getElem?_set_ne (fun e => hc (by rw [e]; rfl))]
        exact hy
/-- a place is put into a rising row. -/
def putN : List Nat → Nat → List Nat
  | [], p => [p]
  | a :: l, p => if a < p then a :: putN l p else if a = p then a :: l else p :: a :: l
theorem mem_putN {p x : Nat} : ∀ {l : List Nat}, x ∈ putN l p ↔ x = p ∨ x ∈ l
  | [] => by simp [putN]
  | a :: l => by
    unfold putN
    split
    · rw [List.mem_cons, mem_putN (l := l), List.mem_cons]
      constructor
      · rintro (h | h | h) <;> simp [h]
      · rintro (h | h | h) <;> simp [h]
    · split
      · rename_i h; subst h; simp
      · simp
theorem putN_sorted {p : Nat} : ∀ {l : List Nat}, l.Pairwise (· < ·) → (putN l p).Pairwise (· < ·)
  | [], _ => by simp [putN]
  | a :: l, h => by
    unfold putN
    rw [List.pairwise_cons] at h
    split
    · rename_i hap
      rw [List.pairwise_cons]
      refine ⟨fun x hx => ?_, putN_sorted h.2⟩
      rcases mem_putN.1 hx with rfl | hx
      · exact hap
      · exact h.1 x hx
    · split
      · exact List.pairwise_cons.2 h
      · rw [List.pairwise_cons, List.pairwise_cons]
        refine ⟨fun x hx => ?_, h⟩
        rcases List.mem_cons.1 hx with rfl | hx
        · omega
        · have := h.1 x hx; omega
theorem putN_len {p : Nat} : ∀ {l : List Nat}, (putN l p = l ∧ p ∈ l) ∨ ((putN l p).length = l.length + 1 ∧ (l.Pairwise (· < ·) → p ∉ l))
  | [] => by simp [putN]
  | a :: l => by
    unfold putN
    split
    · rename_i h
      rcases putN_len (p := p) (l := l) with ⟨h1, h2⟩ | ⟨h1, h2⟩
      · exact .inl ⟨by rw [h1], List.mem_cons_of_mem _ h2⟩
      · refine .inr ⟨by simp [h1], fun hp hm => ?_⟩
        rw [List.pairwise_cons] at hp
        rcases List.mem_cons.1 hm with e | hm
        · omega
        · exact h2 hp.2 hm
    · split
      · rename_i h; subst h; exact .inl ⟨rfl, by simp⟩
      · refine .inr ⟨by simp, fun hp hm => ?_⟩
        rw [List.pairwise_cons] at hp
        rcases List.mem_cons.1 hm with e | hm
        · omega
        · have := hp.1 p hm; omega
/-- where it comes. -/
theorem putN_at {p : Nat} : ∀ {l : List Nat} {i : Nat}, i ≤ l.length → (∀ (j x : Nat), j < i → l[j]? = some x → x < p) → (∀ x, l[i]? = some x → ¬ x < p) → putN l p = if l[i]? = some p then l else l.take i ++ p :: l.drop i
  | [], i, h, _, _ => by
    have : i = 0 := by simpa using h
    subst this; simp [putN]
  | a :: l, 0, _, _, h => by
    have h1 := h a rfl
    unfold putN
    rw [if_neg h1]
    simp
  | a :: l, i + 1, hi, h1, h2 => by
    have h3 := h1 0 a (by omega) rfl
    have ih := putN_at (p := p) (l := l) (i := i) (by simpa using hi) (fun j x hj hx => h1 (j + 1) x (by omega) (by simpa using hx)) (fun x hx => h2 x (by simpa using hx))
    unfold putN
    rw [if_pos h3, ih]
    simp only [List.getElem?_cons_succ, List.take_succ_cons, List.drop_succ_cons]
    split <;> simp
theorem GS.tailGS {B z : Nat} {M : Mem} {u : V} {L : List (List V)} (h : GS B M u z L) {k : Nat} (hk : k ≤ L.length) : ∃ u', sliceV u (some (.int .i64 k)) none none = some u' ∧ Sl M u' z (L.drop k) := h.tail hk
theorem put_mem {M : Mem} {B : Nat} {v : V} {l : List Nat} (p : Nat) (hv : GS B M v 1 (nats l)) (hl : l.length ≤ 5000) (hB : B ≤ M.length) {i : Nat} (hi : i ≤ l.length) : ∃ u1 u2 t1 t2 r M2 M4 M5, sliceV v none (some (.int .i64 i)) none = some u1 ∧ sliceV v (some (.int .i64 i)) none none = some u2 ∧ appendV ((M ++ [Blk.dead, Blk.dead]).set M.length (.cells true [])) [.int .i64 0] 8 (.slice M.length 0 0 0 true 1) u1 = some (t1, M2) ∧ M2[M.length + 1]? = some .dead ∧ appendV (M2.set (M.length + 1) (.cells true [[.int .i64 (p : Int)]])) [.int .i64 0] 8 t1 (.slice (M.length + 1) 0 1 1 true 1) = some (t2, M4) ∧ appendV M4 [.int .i64 0] 8 t2 u2 = some (r, M5) ∧ Grow M M5 ∧ GS B M5 r 1 (nats (l.take i ++ p :: l.drop i)) := by
  have hlen : (nats l).length = l.length := by simp
  obtain ⟨u1, h1, h2, _⟩ := hv.cut (k := i) (by omega)
  obtain ⟨u2, h3, h4⟩ := hv.tail (k := i) (by omega)
  have e1 : (nats l).take i = nats (l.take i) := List.map_take.symm
  have e2 : (nats l).drop i = nats (l.drop i) := List.map_drop.symm
  rw [e1] at h2
  rw [e2] at h4
  have k1 : ∀ c y, c < M.length → M[c]? = some y → ((M ++ [Blk.dead, Blk.dead]).set M.length (.cells true []))[c]? = some y := fun c y hc hy => set_get (by omega) (getElem?_grow hy)
  have hd1 : ((M ++ [Blk.dead, Blk.dead]).set M.length (.cells true []))[M.length + 1]? = some .dead := set_get (by omega) (by rw [List.getElem?_append_right (by omega)]; simp)
  have hb1 : ((M ++ [Blk.dead, Blk.dead]).set M.length (.cells true []))[M.length]? = some (.cells true []) := List.getElem?_set_self (by simp)
  have hl1 : ((M ++ [Blk.dead, Blk.dead]).set M.length (.cells true [])).length = M.length + 2 := by simp
  generalize (M ++ [Blk.dead, Blk.dead]).set M.length (.cells true []) = M1 at *
  have f0 : Ful M.length M1 (.slice M.length 0 0 0 true 1) 1 [] := .inr ⟨M.length, true, Nat.le_refl _, rfl, hb1⟩
  have hti : (l.take i).length ≤ 5000 := by simp; omega
  have htd : (l.drop i).length ≤ 5000 := by simp; omega
  obtain ⟨t1, M2, a1, a2, a3, a4, a5⟩ := f0.pushs (w := u1) (ys := nats (l.take i)) (zero := [.int .i64 0]) (bytes := 8) rfl (Sl.keepLt h2.sl k1) (by simp [roomy]; omega) (by omega)
  rw [List.nil_append] at a2
  have hd2 : M2[M.length + 1]? = some .dead := a3 _ _ (by simp [blkOf]) hd1
  have k2 : ∀ c y, c < M.length → M[c]? = some y → (M2.set (M.length + 1) (.cells true [[.int .i64 (p : Int)]]))[c]? = some y := fun c y hc hy => set_get (by omega) (a3 c y (by simp [blkOf]; omega) (k1 c y hc hy))
  have hb3 : (M2.set (M.length + 1) (.cells true [[.int .i64 (p : Int)]]))[M.length + 1]? = some (.cells true [[.int .i64 (p : Int)]]) := List.getElem?_set_self (List.getElem?_eq_some_iff.1 hd2).1
  have ht1 : blkOf t1 ≠ some (M.length + 1) := by
    rcases a4 with e | e
    · rw [e]; simp [blkOf]
    · rw [e, hl1]; simp
  have f1 : Ful M.length (M2.set (M.length + 1) (.cells true [[.int .i64 (p : Int)]])) t1 1 (nats (l.take i)) := a2.keep fun c y hc hy => set_get (fun e => ht1 (e ▸ hc)) hy
  have hl3 : M.length + 2 ≤ (M2.set (M.length + 1) (.cells true [[.int .i64 (p : Int)]])).length := by simp; omega
  generalize hM3 : M2.set (M.length + 1) (.cells true [[.int .i64 (p : Int)]]) = M3 at *
  have hs3 : Sl M3 (.slice (M.length + 1) 0 1 1 true 1) 1 [[.int .i64 (p : Int)]] := Sl.mk (els := [[V.int .i64 (p : Int)]]) hb3
  obtain ⟨t2, M4, b1, b2, b3, b4, b5⟩ := f1.pushs (w := .slice (M.length + 1) 0 1 1 true 1) (zero := [.int .i64 0]) (bytes := 8) rfl hs3 (by simp [roomy]; omega) (by omega)
  have hge : ∀ c, blkOf t1 = some c → M.length ≤ c := fun c hc => (f1.gs.blk hc).1
  have k4 : ∀ c y, c < M.length → M[c]? = some y → M4[c]? = some y := fun c y hc hy => b3 c y (fun e => by have := hge c e; omega) (k2 c y hc hy)
  obtain ⟨r, M5, c1, c2, c3, c4, c5⟩ := b2.pushs (w := u2) (ys := nats (l.drop i)) (zero := [.int .i64 0]) (bytes := 8) rfl (Sl.keepLt h4 k4) (by simp [roomy]; omega) (by omega)
  have hge2 : ∀ c, blkOf t2 = some c → M.length ≤ c := fun c hc => (b2.gs.blk hc).1
  refine ⟨u1, u2, t1, t2, r, M2, M4, M5, h1, h3, a1, hd2, by rw [hM3]; exact b1, c1, ⟨M5.drop M.length, ?_⟩, ?_⟩
  · have : M5.take M.length = M := by
      apply List.ext_getElem?
      intro c
      by_cases hc : c < M.length
      · rw [List.getElem?_take, if_pos hc]
        have h0 := List.getElem?_eq_getElem hc
        rw [h0]
        exact c3 c _ (fun e => by have := hge2 c e; omega) (k4 c _ hc h0)
      · rw [List.getElem?_eq_none (by simp; omega), List.getElem?_eq_none (by omega)]
    conv => lhs; rw [← List.take_append_drop M.length M5, this]
  · have e : nats (l.take i ++ p :: l.drop i) = nats (l.take i) ++ [[V.int .i64 (p : Int)]] ++ nats (l.drop i) := by simp
    rw [e]
    exact c2.gs.weaken hB
theorem put_spec {m : Mem} {B : Nat} {v : V} {l : List Nat} (p : Nat) (hv : GS B m v 1 (nats l)) (hl : l.length ≤ 5000) (hB : B ≤ m.length) : C S n_ref31_put [v, .int .i64 (p : Nat)] m (fun r m' => Grow m m' ∧ GS B m' r 1 (nats (putN l p))) := by
  refine C_body rfl rfl rfl ?_
  unfold ref31_put
  have hlen : (nats l).length = l.length := by simp
  have hvl := hv.sl.len
  rw [hlen] at hvl
  have hzo : zOk v 1 = true := hv.sl.2
  have r2 : List.replicate 2 Blk.dead = [Blk.dead, Blk.dead] := rfl
  simp (maxDischargeDepth := 30) only [amL, args0, Nat.reduceEqDiff, reduceCtorEq, ↓reduceIte, Nat.reduceAdd, resultsA, results1, Int.reduceNeg, splice, Nat.reduceLeDiff, part, fillA, fillE, Nat.reduceLT]
  let I := fun (k : Nat) (fr : Frame) (M : Mem) => ∃ i : Nat, i ≤ l.length ∧ k = l.length - i ∧ fr 0 = v ∧ fr 1 = .int .i64 (p : Nat) ∧ fr 5 = .int .i64 (i : Nat) ∧ M = m ∧ ∀ (j x : Nat), j < i → l[j]? = some x → x < p
  refine W_loop I ?_ l.length ?_
  · rintro k fr M ⟨i, hi, rfl, f0, f1, f5, hMM, hlt⟩
    subst hMM
    unfold ref31_put_l0
    obtain ⟨u1, u2, t1, t2, r, M2, M4, M5, h1, h3, a1, hd2, b1, c1, hg, hgs⟩ := put_mem p hv hl hB hi
    have hd0 : (M ++ [Blk.dead, Blk.dead])[M.length]? = some .dead := by rw [List.getElem?_append_right (Nat.le_refl _)]; simp
    by_cases hil : i < l.length
    · have hil' : (i : Int) < l.length := by omega
      obtain ⟨y, hy⟩ : ∃ y, l[i]? = some y := ⟨_, List.getElem?_eq_getElem hil⟩
      have ix := hv.sl.index (ki := .i64) (n := i) (by omega) (by omega)
      have ld := fun o k => hv.sl.load (o := o) (k := k) (nats_get hy)
      simp only [Int.toNat_natCast] at ix
      have wi : IntKind.i64.wrap ((i : Int) + 1) = ((i + 1 : Nat) : Int) := by rw [wrap_i64] <;> omega
      by_cases hyp : (y : Int) < p
      · simp (maxDischargeDepth := 30) only [f0, f1, f5, hvl, hil', ix, ld, hyp, wi, amL, args0, Nat.reduceEqDiff, reduceCtorEq, ↓reduceIte, Nat.reduceAdd, resultsA, results1, Int.reduceNeg, splice, Nat.reduceLeDiff, part, fillA, fillE, Nat.reduceLT]
        refine ⟨_, ?_, i + 1, by omega, rfl, by simp (maxDischargeDepth := 30) only [f0, amL, args0, Nat.reduceEqDiff, reduceCtorEq, ↓reduceIte, Nat.reduceAdd, resultsA, results1, Int.reduceNeg, splice, Nat.reduceLeDiff, part, fillA, fillE, Nat.reduceLT], by simp (maxDischargeDepth := 30) only [f1, amL, args0, Nat.reduceEqDiff, reduceCtorEq, ↓reduceIte, Nat.reduceAdd, resultsA, results1, Int.reduceNeg, splice, Nat.reduceLeDiff, part, fillA, fillE, Nat.reduceLT], by simp (maxDischargeDepth := 30) only [amL, args0, Nat.reduceEqDiff, reduceCtorEq, ↓reduceIte, Nat.reduceAdd, resultsA, results1, Int.reduceNeg, splice, Nat.reduceLeDiff, part, fillA, fillE, Nat.reduceLT], rfl, fun j x hj hx => ?_⟩
        · omega
        · by_cases e : j = i
          · rw [e, hy] at hx; cases hx; omega
          · exact hlt j x (by omega) hx
      · have hput := putN_at (p := p) hi hlt (fun x hx => by rw [hy] at hx; cases hx; omega)
        by_cases e : (y : Int) = p
        · have e' : y = p := by omega
          rw [if_pos (by rw [hy, e'])] at hput
          have e2 : ((y : Int) = p) = True := eq_true e
          simp (maxDischargeDepth := 30) only [f0, f1, f5, hvl, hil', ix, ld, hyp, e2, amL, args0, Nat.reduceEqDiff, reduceCtorEq, ↓reduceIte, Nat.reduceAdd, resultsA, results1, Int.reduceNeg, splice, Nat.reduceLeDiff, part, fillA, fillE, Nat.reduceLT]
          rw [hput]
          exact ⟨Grow.refl _, hv⟩
        · rw [if_neg (by rw [hy]; intro h; cases h; exact e rfl)] at hput
          simp (maxDischargeDepth := 30) only [f0, f1, f5, hvl, hil', ix, ld, hyp, e, Option.map_none, Option.map_some, hzo, h1, h3, r2, amL, args0, Nat.reduceEqDiff, reduceCtorEq, ↓reduceIte, Nat.reduceAdd, resultsA, results1, Int.reduceNeg, splice, Nat.reduceLeDiff, part, fillA, fillE, Nat.reduceLT]
          refine ⟨hd0, _, _, a1, hd2, ?_⟩
          refine ⟨_, _, b1, ?_⟩
          refine ⟨_, _, c1, ?_⟩
          rw [hput]
          exact ⟨hg, hgs⟩
    · have hil' : ¬ (i : Int) < l.length := by omega
      have hie : l[i]? = none := List.getElem?_eq_none (by omega)
      have hput := putN_at (p := p) hi hlt (fun x hx => by rw [hie] at hx; cases hx)
      rw [if_neg (by rw [hie]; simp)] at hput
      simp (maxDischargeDepth := 30) only [f0, f1, f5, hvl, hil', Option.map_none, Option.map_some, hzo, h1, h3, r2, amL, args0, Nat.reduceEqDiff, reduceCtorEq, ↓reduceIte, Nat.reduceAdd, resultsA, results1, Int.reduceNeg, splice, Nat.reduceLeDiff, part, fillA, fillE, Nat.reduceLT]
      refine ⟨hd0, _, _, a1, hd2, ?_⟩
      refine ⟨_, _, b1, ?_⟩
      refine ⟨_, _, c1, ?_⟩
      rw [hput]
      exact ⟨hg, hgs⟩
  · exact ⟨0, Nat.zero_le _, rfl, by simp (maxDischargeDepth := 30) only [amL, args0, Nat.reduceEqDiff, reduceCtorEq, ↓reduceIte, Nat.reduceAdd, resultsA, results1, Int.reduceNeg, splice, Nat.reduceLeDiff, part, fillA, fillE, Nat.reduceLT], by simp (maxDischargeDepth := 30) only [amL, args0, Nat.reduceEqDiff, reduceCtorEq, ↓reduceIte, Nat.reduceAdd, resultsA, results1, Int.reduceNeg, splice, Nat.reduceLeDiff, part, fillA, fillE, Nat.reduceLT], by simp (maxDischargeDepth := 30) only [amL, args0, Nat.reduceEqDiff, reduceCtorEq, ↓reduceIte, Nat.reduceAdd, resultsA, results1, Int.reduceNeg, splice, Nat.reduceLeDiff, part, fillA, fillE, Nat.reduceLT]; rfl, rfl, fun j x hj => absurd hj (Nat.not_lt_zero _)⟩
end Go.AM.G


set_option maxRecDepth 100000
namespace Go.AM.G
open Go Go.AM
theorem refCheck_spec {m : Mem} {nv rv : V} {N : List NodeA} {R : List Int} (hv : Gr m nv rv N R) (hf : Fits N R) (ha : ∀ x, x ∈ N → 0 ≤ x.addr) : C S n_ref31_Check [.agg [nv, rv]] m (fun r m' => r = .int .i64 (if validG N R = true then 0 else 2) ∧ Grow m m') := by
  refine C_body rfl rfl rfl ?_
  unfold ref31_Check
  obtain ⟨hc1, hc2⟩ := hv.cells
  obtain ⟨hr, els, hn, hel, hnd⟩ := id hv
  have r0 : List.replicate 0 Blk.dead = [] := rfl
  have l0 : ∀ k, loadV (m ++ [Blk.cells true [[nv, rv]]]) k (.ptr m.length 0 0) = part [nv, rv] 0 k := fun k => load_at0 (own := true) (by simp)
  have l1 : ∀ k, loadV (m ++ [Blk.cells true [[nv, rv]]]) k (.ptr m.length 0 1) = part [nv, rv] 1 k := fun k => load_at0 (own := true) (by simp)
  by_cases h4 : (4096 : Int) < N.length
  · have : validG N R = false := by simp [validG]; omega
    simp (maxDischargeDepth := 30) only [hc1, hc2, hn.len, hel, l0, l1, h4, this, amL, args0, Nat.reduceEqDiff, reduceCtorEq, ↓reduceIte, Nat.reduceAdd, resultsA, results1, Int.reduceNeg, splice, Nat.reduceLeDiff, part, fillA, fillE, Nat.reduceLT]
    exact (Grow.refl _).app
  simp (maxDischargeDepth := 30) only [hc1, hc2, hn.len, hel, l0, l1, h4, amL, args0, Nat.reduceEqDiff, reduceCtorEq, ↓reduceIte, Nat.reduceAdd, resultsA, results1, Int.reduceNeg, splice, Nat.reduceLeDiff, part, fillA, fillE, Nat.reduceLT]
  refine (places_spec N.length (.inl hr.app) hf.2.1).mono ?_
  rintro _ _ ⟨rfl, rfl⟩
  cases hrs : risesB N.length (-1) R with
  | false =>
    have : validG N R = false := by simp [validG, hrs]
    simp (maxDischargeDepth := 30) only [aft_mk, this, Bool.not_false, amL, args0, Nat.reduceEqDiff, reduceCtorEq, ↓reduceIte, Nat.reduceAdd, resultsA, results1, Int.reduceNeg, splice, Nat.reduceLeDiff, part, fillA, fillE, Nat.reduceLT]
    exact (Grow.refl _).app
  | true =>
    have hval : validG N R = nodesB N.length 0 N := by
      have : N.length ≤ 4096 := by omega
      simp [validG, hrs, this]
    simp (maxDischargeDepth := 30) only [aft_mk, hn.len, hel, l0, Bool.not_true, amL, args0, Nat.reduceEqDiff, reduceCtorEq, ↓reduceIte, Nat.reduceAdd, resultsA, results1, Int.reduceNeg, splice, Nat.reduceLeDiff, part, fillA, fillE, Nat.reduceLT]
    generalize hM0 : m ++ [Blk.cells true [[nv, rv]]] = M0
    have hg0 : Grow m M0 := by rw [← hM0]; exact (Grow.refl _).app
    have hT : M0[m.length]? = some (.cells true [[nv, rv]]) := by rw [← hM0]; simp
    clear hM0 l0 l1
    let I := fun (k : Nat) (fr : Frame) (M : Mem) => ∃ (i : Nat) (last : Int), i ≤ N.length ∧ k = N.length - i ∧ fr 1 = .ptr m.length 0 0 ∧ fr 19 = nv ∧ fr 20 = .int .i64 N.length ∧ fr 21 = .int .i64 (i : Nat) ∧ nodesB N.length last (N.drop i) = nodesB N.length 0 N ∧ Grow M0 M ∧ ((i = 0 ∧ last = 0) ∨ ∃ i' nd, i = i' + 1 ∧ N[i']? = some nd ∧ nd.addr = last ∧ 0 < last)
    refine W_loop I ?_ N.length ?_
    · rintro k fr M ⟨i, last, hi, rfl, f1, f19, f20, f21, hb, hgM, hla⟩
      have hg := hg0.trans hgM
      unfold ref31_Check_l0
      simp (maxDischargeDepth := 30) only [f1, f19, f20, f21, amL, args0, Nat.reduceEqDiff, reduceCtorEq, ↓reduceIte, Nat.reduceAdd, resultsA, results1, Int.reduceNeg, splice, Nat.reduceLeDiff, part, fillA, fillE, Nat.reduceLT]
      by_cases hil : i < N.length
      · have hil' : (i : Int) < N.length := by omega
        obtain ⟨x, hx⟩ : ∃ x, N[i]? = some x := ⟨_, List.getElem?_eq_getElem hil⟩
        have hxa := ha x (List.mem_of_getElem? hx)
        obtain ⟨tv, he, ht⟩ := hnd i x hx
        have htc := ht.cell
        have hsl := hn.grow hg
        have ix := hsl.index (ki := .i64) (n := i) (by omega) (by omega)
        have ld := fun o j => hsl.load (o := o) (k := j) he
        simp only [Int.toNat_natCast] at ix ld
        have w1 : IntKind.i64.wrap ((i : Int) + 1) = ((i + 1 : Nat) : Int) := by rw [wrap_i64] <;> omega
        have lx : ∀ o j, loadV (M ++ [Blk.cells true [[V.int .u64 x.addr, V.int .i64 x.words, tv]]]) j (.ptr M.length 0 o) = part [V.int .u64 x.addr, V.int .i64 x.words, tv] o j := fun o j => load_at0 (own := true) (by simp)
        have lT : ∀ o j, loadV (M ++ [Blk.cells true [[V.int .u64 x.addr, V.int .i64 x.words, tv]]]) j (.ptr m.length 0 o) = part [nv, rv] o j := fun o j => load_at0 (getElem?_grow (hgM.get hT))
        rw [nodesB_drop hx] at hb
        have hla0 : 0 ≤ last := by rcases hla with ⟨_, rfl⟩ | ⟨_, _, _, _, _, h⟩ <;> omega
        by_cases h0 : x.addr = 0
        · have : decide (last < x.addr) = false := by simp; omega
          rw [this, Bool.false_and] at hb
          simp (maxDischargeDepth := 30) only [hil', f1, f19, f20, f21, ix, ld, htc, lx, h0, hval, ← hb, r0, List.append_nil, amL, args0, Nat.reduceEqDiff, reduceCtorEq, ↓reduceIte, Nat.reduceAdd, resultsA, results1, Int.reduceNeg, splice, Nat.reduceLeDiff, part, fillA, fillE, Nat.reduceLT]
          exact hg.app
        have hrest : ∀ (fr' : Frame) (Q : Prop), True := fun _ _ => trivial
        have rest : (last < x.addr) → (1 ≤ x.words ∧ x.words ≤ 49) → risesB N.length (-1) x.to = true → nodesB N.length x.addr (N.drop (i + 1)) = nodesB N.length 0 N := fun h1 h2 h3 => by
          have e1 : decide (last < x.addr) = true := by simp; omega
          have e2 : decide (1 ≤ x.words ∧ x.words ≤ 49) = true := by simp; omega
          rw [e1, e2, Bool.true_and, Bool.true_and, h3, Bool.true_and] at hb
          exact hb
        have bad : ¬ ((last < x.addr) ∧ (1 ≤ x.words ∧ x.words ≤ 49) ∧ risesB N.length (-1) x.to = true) → nodesB N.length 0 N = false := fun h => by
          rw [← hb]
          cases e3 : risesB N.length (-1) x.to with
          | false => simp
          | true =>
            by_cases e1 : last < x.addr
            · by_cases e2 : 1 ≤ x.words ∧ x.words ≤ 49
              · exact absurd ⟨e1, e2, e3⟩ h
              · simp [e2]
            · simp [e1]
        have hcall := (places_spec (m := M ++ [Blk.cells true [[V.int .u64 x.addr, V.int .i64 x.words, tv]]]) N.length (ht.grow hg).app (hf.2.2 x (List.mem_of_getElem? hx)))
        rcases hla with ⟨rfl, rfl⟩ | ⟨i', nd, rfl, hnd', hla1, hla2⟩
        · have c0 : ¬ (0 : Int) < ((0 : Nat) : Int) := by omega
          have hlt : (0 : Int) < x.addr := by omega
          by_cases h2 : x.words < 1
          · have hbad := bad fun h => by omega
            simp (maxDischargeDepth := 30) only [hil', f1, f19, f20, f21, ix, ld, htc, lx, h0, c0, h2, hval, hbad, r0, List.append_nil, amL, args0, Nat.reduceEqDiff, reduceCtorEq, ↓reduceIte, Nat.reduceAdd, resultsA, results1, Int.reduceNeg, splice, Nat.reduceLeDiff, part, fillA, fillE, Nat.reduceLT]
            exact hg.app
          by_cases h3 : 49 < x.words
          · have hbad := bad fun h => by omega
            simp (maxDischargeDepth := 30) only [hil', f1, f19, f20, f21, ix, ld, htc, lx, h0, c0, h2, h3, hval, hbad, r0, List.append_nil, amL, args0, Nat.reduceEqDiff, reduceCtorEq, ↓reduceIte, Nat.reduceAdd, resultsA, results1, Int.reduceNeg, splice, Nat.reduceLeDiff, part, fillA, fillE, Nat.reduceLT]
            exact hg.app
          simp (maxDischargeDepth := 30) only [hil', f1, f19, f20, f21, ix, ld, htc, lx, lT, h0, c0, h2, h3, hn.len, (hn.grow hg).len, hel, r0, List.append_nil, amL, args0, Nat.reduceEqDiff, reduceCtorEq, ↓reduceIte, Nat.reduceAdd, resultsA, results1, Int.reduceNeg, splice, Nat.reduceLeDiff, part, fillA, fillE, Nat.reduceLT]
          refine hcall.mono ?_
          rintro _ _ ⟨rfl, rfl⟩
          cases hrx : risesB N.length (-1) x.to with
          | false =>
            have hbad := bad fun h => by rw [hrx] at h; simp at h
            simp (maxDischargeDepth := 30) only [aft_mk, hval, hbad, Bool.not_false, r0, List.append_nil, amL, args0, Nat.reduceEqDiff, reduceCtorEq, ↓reduceIte, Nat.reduceAdd, resultsA, results1, Int.reduceNeg, splice, Nat.reduceLeDiff, part, fillA, fillE, Nat.reduceLT]
            exact hg.app
          | true =>
            simp (maxDischargeDepth := 30) only [aft_mk, Bool.not_true, f1, f19, f20, f21, w1, r0, List.append_nil, amL, args0, Nat.reduceEqDiff, reduceCtorEq, ↓reduceIte, Nat.reduceAdd, resultsA, results1, Int.reduceNeg, splice, Nat.reduceLeDiff, part, fillA, fillE, Nat.reduceLT]
            refine ⟨_, ?_, 0 + 1, x.addr, by omega, rfl, by simp (maxDischargeDepth := 30) only [f1, amL, args0, Nat.reduceEqDiff, reduceCtorEq, ↓reduceIte, Nat.reduceAdd, resultsA, results1, Int.reduceNeg, splice, Nat.reduceLeDiff, part, fillA, fillE, Nat.reduceLT], by simp (maxDischargeDepth := 30) only [f19, amL, args0, Nat.reduceEqDiff, reduceCtorEq, ↓reduceIte, Nat.reduceAdd, resultsA, results1, Int.reduceNeg, splice, Nat.reduceLeDiff, part, fillA, fillE, Nat.reduceLT], by simp (maxDischargeDepth := 30) only [f20, amL, args0, Nat.reduceEqDiff, reduceCtorEq, ↓reduceIte, Nat.reduceAdd, resultsA, results1, Int.reduceNeg, splice, Nat.reduceLeDiff, part, fillA, fillE, Nat.reduceLT], by simp (maxDischargeDepth := 30) only [amL, args0, Nat.reduceEqDiff, reduceCtorEq, ↓reduceIte, Nat.reduceAdd, resultsA, results1, Int.reduceNeg, splice, Nat.reduceLeDiff, part, fillA, fillE, Nat.reduceLT], rest hlt (by omega) hrx, hgM.app, .inr ⟨0, x, rfl, hx, rfl, by omega⟩⟩
            omega
        · have c0 : (0 : Int) < ((i' + 1 : Nat) : Int) := by omega
          have wi' : IntKind.i64.wrap (((i' + 1 : Nat) : Int) - 1) = (i' : Int) := by rw [wrap_i64] <;> omega
          obtain ⟨tv', he', _⟩ := hnd i' nd hnd'
          have ix' := (hsl.app (g := [Blk.cells true [[V.int .u64 x.addr, V.int .i64 x.words, tv]]])).index (ki := .i64) (n := i') (by omega) (by omega)
          have ld' := fun o j => (hsl.app (g := [Blk.cells true [[V.int .u64 x.addr, V.int .i64 x.words, tv]]])).load (o := o) (k := j) he'
          simp only [Int.toNat_natCast] at ix'
          rw [hla1] at ld'
          by_cases h1 : x.addr ≤ last
          · have hbad := bad fun h => by omega
            simp (maxDischargeDepth := 30) only [hil', f1, f19, f20, f21, ix, ld, htc, lx, lT, h0, c0, wi', ix', ld', h1, hval, hbad, r0, List.append_nil, amL, args0, Nat.reduceEqDiff, reduceCtorEq, ↓reduceIte, Nat.reduceAdd, resultsA, results1, Int.reduceNeg, splice, Nat.reduceLeDiff, part, fillA, fillE, Nat.reduceLT]
            exact hg.app
          have hlt : last < x.addr := by omega
          by_cases h2 : x.words < 1
          · have hbad := bad fun h => by omega
            simp (maxDischargeDepth := 30) only [hil', f1, f19, f20, f21, ix, ld, htc, lx, lT, h0, c0, wi', ix', ld', h1, h2, hval, hbad, r0, List.append_nil, amL, args0, Nat.reduceEqDiff, reduceCtorEq, ↓reduceIte, Nat.reduceAdd, resultsA, results1, Int.reduceNeg, splice, Nat.reduceLeDiff, part, fillA, fillE, Nat.reduceLT]
            exact hg.app
          by_cases h3 : 49 < x.words
          · have hbad := bad fun h => by omega
            simp (maxDischargeDepth := 30) only [hil', f1, f19, f20, f21, ix, ld, htc, lx, lT, h0, c0, wi', ix', ld', h1, h2, h3, hval, hbad, r0, List.append_nil, amL, args0, Nat.reduceEqDiff, reduceCtorEq, ↓reduceIte, Nat.reduceAdd, resultsA, results1, Int.reduceNeg, splice, Nat.reduceLeDiff, part, fillA, fillE, Nat.reduceLT]
            exact hg.app
          simp (maxDischargeDepth := 30) only [hil', f1, f19, f20, f21, ix, ld, htc, lx, lT, h0, c0, wi', ix', ld', h1, h2, h3, (hn.grow hg).len, hn.len, hel, r0, List.append_nil, amL, args0, Nat.reduceEqDiff, reduceCtorEq, ↓reduceIte, Nat.reduceAdd, resultsA, results1, Int.reduceNeg, splice, Nat.reduceLeDiff, part, fillA, fillE, Nat.reduceLT]
          refine hcall.mono ?_
          rintro _ _ ⟨rfl, rfl⟩
          cases hrx : risesB N.length (-1) x.to with
          | false =>
            have hbad := bad fun h => by rw [hrx] at h; simp at h
            simp (maxDischargeDepth := 30) only [aft_mk, hval, hbad, Bool.not_false, r0, List.append_nil, amL, args0, Nat.reduceEqDiff, reduceCtorEq, ↓reduceIte, Nat.reduceAdd, resultsA, results1, Int.reduceNeg, splice, Nat.reduceLeDiff, part, fillA, fillE, Nat.reduceLT]
            exact hg.app
          | true =>
            simp (maxDischargeDepth := 30) only [aft_mk, Bool.not_true, f1, f19, f20, f21, w1, r0, List.append_nil, amL, args0, Nat.reduceEqDiff, reduceCtorEq, ↓reduceIte, Nat.reduceAdd, resultsA, results1, Int.reduceNeg, splice, Nat.reduceLeDiff, part, fillA, fillE, Nat.reduceLT]
            refine ⟨_, ?_, i' + 1 + 1, x.addr, by omega, rfl, by simp (maxDischargeDepth := 30) only [f1, amL, args0, Nat.reduceEqDiff, reduceCtorEq, ↓reduceIte, Nat.reduceAdd, resultsA, results1, Int.reduceNeg, splice, Nat.reduceLeDiff, part, fillA, fillE, Nat.reduceLT], by simp (maxDischargeDepth := 30) only [f19, amL, args0, Nat.reduceEqDiff, reduceCtorEq, ↓reduceIte, Nat.reduceAdd, resultsA, results1, Int.reduceNeg, splice, Nat.reduceLeDiff, part, fillA, fillE, Nat.reduceLT], by simp (maxDischargeDepth := 30) only [f20, amL, args0, Nat.reduceEqDiff, reduceCtorEq, ↓reduceIte, Nat.reduceAdd, resultsA, results1, Int.reduceNeg, splice, Nat.reduceLeDiff, part, fillA, fillE, Nat.reduceLT], by simp (maxDischargeDepth := 30) only [amL, args0, Nat.reduceEqDiff, reduceCtorEq, ↓reduceIte, Nat.reduceAdd, resultsA, results1, Int.reduceNeg, splice, Nat.reduceLeDiff, part, fillA, fillE, Nat.reduceLT], rest hlt (by omega) hrx, hgM.app, .inr ⟨i' + 1, x, rfl, hx, rfl, by omega⟩⟩
            omega
      · have hil' : ¬ (i : Int) < N.length := by omega
        have hie : i = N.length := by omega
        subst hie
        rw [List.drop_length] at hb
        simp (maxDischargeDepth := 30) only [hil', f1, f19, f20, f21, hval, ← hb, nodesB, amL, args0, Nat.reduceEqDiff, reduceCtorEq, ↓reduceIte, Nat.reduceAdd, resultsA, results1, Int.reduceNeg, splice, Nat.reduceLeDiff, part, fillA, fillE, Nat.reduceLT]
        exact hg
    · exact ⟨0, 0, Nat.zero_le _, rfl, by simp (maxDischargeDepth := 30) only [amL, args0, Nat.reduceEqDiff, reduceCtorEq, ↓reduceIte, Nat.reduceAdd, resultsA, results1, Int.reduceNeg, splice, Nat.reduceLeDiff, part, fillA, fillE, Nat.reduceLT], by simp (maxDischargeDepth := 30) only [amL, args0, Nat.reduceEqDiff, reduceCtorEq, ↓reduceIte, Nat.reduceAdd, resultsA, results1, Int.reduceNeg, splice, Nat.reduceLeDiff, part, fillA, fillE, Nat.reduceLT], by simp (maxDischargeDepth := 30) only [amL, args0, Nat.reduceEqDiff, reduceCtorEq, ↓reduceIte, Nat.reduceAdd, resultsA, results1, Int.reduceNeg, splice, Nat.reduceLeDiff, part, fillA, fillE, Nat.reduceLT], by simp (maxDischargeDepth := 30) only [amL, args0, Nat.reduceEqDiff, reduceCtorEq, ↓reduceIte, Nat.reduceAdd, resultsA, results1, Int.reduceNeg, splice, Nat.reduceLeDiff, part, fillA, fillE, Nat.reduceLT]; rfl, rfl, Grow.refl _, .inl ⟨rfl, rfl⟩⟩
/-- are two rows one? -/
theorem SamePlaces_spec {m : Mem} {v u : V} {a b : List Int} (hv : SlR m v 1 (i64s a)) (hu : SlR m u 1 (i64s b)) (ha : a.length < 2 ^ 60) : C S n_ref31_SamePlaces [v, u] m (fun r m' => r = .bool (decide (a = b)) ∧ m' = m) := by
  refine C_body rfl rfl rfl ?_
  unfold ref31_SamePlaces
  have hla : (i64s a).length = a.length := by simp
  have hlb : (i64s b).length = b.length := by simp
  have h1 := hv.len
  have h2 := hu.len
  rw [hla] at h1
  rw [hlb] at h2
  have r0 : List.replicate 0 Blk.dead = [] := rfl
  by_cases hl : (a.length : Int) = b.length
  · have hl' : ¬ ¬ (a.length : Int) = b.length := fun h => h hl
    have hab : a.length = b.length := by omega
    rw [← hl] at h2
    have c0 : ¬ ¬ (a.length : Int) = a.length := fun h => h rfl
    simp (maxDischargeDepth := 30) only [h1, h2, c0, amL, args0, Nat.reduceEqDiff, reduceCtorEq, ↓reduceIte, Nat.reduceAdd, resultsA, results1, Int.reduceNeg, splice, Nat.reduceLeDiff, part, fillA, fillE, Nat.reduceLT]
    let I := fun (k : Nat) (fr : Frame) (M : Mem) => ∃ i : Nat, i ≤ a.length ∧ k = a.length - i ∧ fr 0 = v ∧ fr 1 = u ∧ fr 12 = .int .i64 a.length ∧ fr 13 = .int .i64 (i : Nat) ∧ M = m ∧ a.take i = b.take i
    refine W_loop I ?_ a.length ?_
    · rintro k fr M ⟨i, hi, rfl, f0, f1, f12, f13, rfl, ht⟩
      unfold ref31_SamePlaces_l0
      simp (maxDischargeDepth := 30) only [f0, f1, f12, f13, amL, args0, Nat.reduceEqDiff, reduceCtorEq, ↓reduceIte, Nat.reduceAdd, resultsA, results1, Int.reduceNeg, splice, Nat.reduceLeDiff, part, fillA, fillE, Nat.reduceLT]
      by_cases hil : i < a.length
      · have hil' : (i : Int) < a.length := by omega
        obtain ⟨x, hx⟩ : ∃ x, a[i]? = some x := ⟨_, List.getElem?_eq_getElem hil⟩
        obtain ⟨y, hy⟩ : ∃ y, b[i]? = some y := ⟨_, List.getElem?_eq_getElem (by omega)⟩
        have ix := hv.index (ki := .i64) (n := i) (by omega) (by omega)
        have ld := fun o k => hv.load (o := o) (k := k) (i64s_get hx)
        have iy := hu.index (ki := .i64) (n := i) (by omega) (by omega)
        have ldy := fun o k => hu.load (o := o) (k := k) (i64s_get hy)
        simp only [Int.toNat_natCast] at ix iy
        have wi : IntKind.i64.wrap ((i : Int) + 1) = ((i + 1 : Nat) : Int) := by rw [wrap_i64] <;> omega
        by_cases e : x = y
        · have e' : ¬ ¬ x = y := fun h => h e
          subst e
          have c1 : ¬ ¬ x = x := fun h => h rfl
          simp (maxDischargeDepth := 30) only [hil', f0, f1, f12, f13, ix, ld, iy, ldy, c1, wi, r0, List.append_nil, amL, args0, Nat.reduceEqDiff, reduceCtorEq, ↓reduceIte, Nat.reduceAdd, resultsA, results1, Int.reduceNeg, splice, Nat.reduceLeDiff, part, fillA, fillE, Nat.reduceLT]
          refine ⟨_, ?_, i + 1, by omega, rfl, by simp (maxDischargeDepth := 30) only [f0, amL, args0, Nat.reduceEqDiff, reduceCtorEq, ↓reduceIte, Nat.reduceAdd, resultsA, results1, Int.reduceNeg, splice, Nat.reduceLeDiff, part, fillA, fillE, Nat.reduceLT], by simp (maxDischargeDepth := 30) only [f1, amL, args0, Nat.reduceEqDiff, reduceCtorEq, ↓reduceIte, Nat.reduceAdd, resultsA, results1, Int.reduceNeg, splice, Nat.reduceLeDiff, part, fillA, fillE, Nat.reduceLT], by simp (maxDischargeDepth := 30) only [f12, amL, args0, Nat.reduceEqDiff, reduceCtorEq, ↓reduceIte, Nat.reduceAdd, resultsA, results1, Int.reduceNeg, splice, Nat.reduceLeDiff, part, fillA, fillE, Nat.reduceLT], by simp (maxDischargeDepth := 30) only [amL, args0, Nat.reduceEqDiff, reduceCtorEq, ↓reduceIte, Nat.reduceAdd, resultsA, results1, Int.reduceNeg, splice, Nat.reduceLeDiff, part, fillA, fillE, Nat.reduceLT], rfl, ?_⟩
          · omega
          · obtain ⟨p1, p2⟩ := List.getElem?_eq_some_iff.1 hx
            obtain ⟨q1, q2⟩ := List.getElem?_eq_some_iff.1 hy
            rw [List.take_succ_eq_append_getElem p1, List.take_succ_eq_append_getElem q1, p2, q2, ht]
        · have hne : a ≠ b := fun h => by rw [h, hy] at hx; exact e (by cases hx; rfl)
          simp (maxDischargeDepth := 30) only [hil', f0, f1, f12, f13, ix, ld, iy, ldy, e, hne, decide_false, r0, List.append_nil, amL, args0, Nat.reduceEqDiff, reduceCtorEq, ↓reduceIte, Nat.reduceAdd, resultsA, results1, Int.reduceNeg, splice, Nat.reduceLeDiff, part, fillA, fillE, Nat.reduceLT]
      · have hil' : ¬ (i : Int) < a.length := by omega
        have hie : i = a.length := by omega
        rw [hie, List.take_length, hab, List.take_length] at ht
        have ht' : decide (a = b) = true := decide_eq_true ht
        simp (maxDischargeDepth := 30) only [hil', f0, f1, f12, f13, ht', amL, args0, Nat.reduceEqDiff, reduceCtorEq, ↓reduceIte, Nat.reduceAdd, resultsA, results1, Int.reduceNeg, splice, Nat.reduceLeDiff, part, fillA, fillE, Nat.reduceLT]
    · exact ⟨0, Nat.zero_le _, rfl, by simp (maxDischargeDepth := 30) only [amL, args0, Nat.reduceEqDiff, reduceCtorEq, ↓reduceIte, Nat.reduceAdd, resultsA, results1, Int.reduceNeg, splice, Nat.reduceLeDiff, part, fillA, fillE, Nat.reduceLT], by simp (maxDischargeDepth := 30) only [amL, args0, Nat.reduceEqDiff, reduceCtorEq, ↓reduceIte, Nat.reduceAdd, resultsA, results1, Int.reduceNeg, splice, Nat.reduceLeDiff, part, fillA, fillE, Nat.reduceLT], by simp (maxDischargeDepth := 30) only [amL, args0, Nat.reduceEqDiff, reduceCtorEq, ↓reduceIte, Nat.reduceAdd, resultsA, results1, Int.reduceNeg, splice, Nat.reduceLeDiff, part, fillA, fillE, Nat.reduceLT], by simp (maxDischargeDepth := 30) only [amL, args0, Nat.reduceEqDiff, reduceCtorEq, ↓reduceIte, Nat.reduceAdd, resultsA, results1, Int.reduceNeg, splice, Nat.reduceLeDiff, part, fillA, fillE, Nat.reduceLT]; rfl, rfl, by simp⟩
  · have hne : a ≠ b := fun h => hl (by rw [h])
    simp (maxDischargeDepth := 30) only [h1, h2, hl, hne, decide_false, amL, args0, Nat.reduceEqDiff, reduceCtorEq, ↓reduceIte, Nat.reduceAdd, resultsA, results1, Int.reduceNeg, splice, Nat.reduceLeDiff, part, fillA, fillE, Nat.reduceLT]
end Go.AM.G


set_option maxRecDepth 100000
namespace Go.AM.G
open Go Go.AM
theorem pth_lt {to : Nat → List Nat} {src : List Nat} {but : Int} {n j p : Nat} (hs : ∀ p, p ∈ src → p < n) (ht : ∀ p q, q ∈ to p → q < n) (h : Pth to src but j p) : p < n := by
  cases h with
  | start h _ => exact hs _ h
  | step _ h _ => exact ht _ _ h
/-- what some steps found. -/
structure FromI (to : Nat → List Nat) (src : List Nat) (but : Int) (n : Nat) (out : List Nat) (done : Nat → Nat → Prop) (nx : List Nat) : Prop where
  srt : nx.Pairwise (· < ·)
  way : ∀ p, p ∈ nx → ∃ j, Pth to src but j p
  sub : ∀ p, p ∈ out → p ∈ nx
  eq : nx = out → ∀ p q, done p q → q ∈ out
  len : out.length ≤ nx.length
  lt : nx.length = out.length → nx = out
theorem FromI.put {to : Nat → List Nat} {src : List Nat} {but : Int} {n : Nat} {out nx : List Nat} {done done' : Nat → Nat → Prop} {q : Nat} (h : FromI to src but n out done nx) (hq : ∃ j, Pth to src but j q) (hd : ∀ p' q', done' p' q' → done p' q' ∨ q' = q) : FromI to src but n out done' (putN nx q) := by
  rcases putN_len (p := q) (l := nx) with ⟨h1, h2⟩ | ⟨h1, h2⟩
  · rw [h1]
    refine ⟨h.srt, h.way, h.sub, fun e p' q' hd' => ?_, h.len, h.lt⟩
    rcases hd p' q' hd' with h3 | rfl
    · exact h.eq e p' q' h3
    · exact e ▸ h2
  · refine ⟨putN_sorted h.srt, fun p hp => ?_, fun p hp => mem_putN.2 (.inr (h.sub p hp)), fun e => ?_, by have := h.len; omega, fun e => ?_⟩
    · rcases mem_putN.1 hp with rfl | hp
      · exact hq
      · exact h.way p hp
    · have := congrArg List.length e; have := h.len; omega
    · have := h.len; omega
theorem from_spec {m : Mem} {nv rv fv : V} {N : List NodeA} {R : List Int} {src : List Nat} {but : Int} (hG : Gr m nv rv N R) (hf : Fits N R) (hval : validG N R = true) (hsrc : SlR m fv 1 (nats src)) (hsl : ∀ p, p ∈ src → p < N.length) (hsn : src.length < 2 ^ 60) :
    C S n_ref31_from [.agg [nv, rv], fv, .int .i64 but] m (fun r m' => Grow m m' ∧ ∃ l, GS m.length m' r 1 (nats l) ∧ l.Pairwise (· < ·) ∧ ∀ p, p ∈ l ↔ ∃ j, Pth (toN N) src but j p) := by
  obtain ⟨hc1, hc2⟩ := hG.cells
  obtain ⟨_, els, hn, hel, hnd⟩ := id hG
  obtain ⟨hn4, hto, hlt, _⟩ := valid_to hval
  have hlen : (nats src).length = src.length := by simp
  have hfl := hsrc.len
  rw [hlen] at hfl
  have hpl : ∀ j p, Pth (toN N) src but j p → p < N.length := fun j p h => pth_lt hsl hlt h
  have hbnd : ∀ l : List Nat, l.Pairwise (· < ·) → (∀ p, p ∈ l → ∃ j, Pth (toN N) src but j p) → l.length ≤ N.length := fun l h1 h2 => sorted_len h1 fun p hp => by obtain ⟨j, h⟩ := h2 p hp; exact hpl j p h
  refine C_body rfl rfl rfl ?_
  unfold ref31_from
  simp (maxDischargeDepth := 30) only [hc1, hc2, hfl, amL, args0, Nat.reduceEqDiff, reduceCtorEq, ↓reduceIte, Nat.reduceAdd, resultsA, results1, Int.reduceNeg, splice, Nat.reduceLeDiff, part, fillA, fillE, Nat.reduceLT]
  generalize hM0 : m ++ [Blk.cells true [[nv, rv]]] = M0
  have hg0 : Grow m M0 := by rw [← hM0]; exact (Grow.refl _).app
  have hT : M0[m.length]? = some (.cells true [[nv, rv]]) := by rw [← hM0]; simp
  clear hM0
  refine W_range (α := V × List Nat) src.length [2, 3, 7, 15] (fun x => [(2, .int .i64 but), (3, .ptr m.length 0 0), (7, x.1), (15, fv)])
    (fun k x M => Grow M0 M ∧ GS m.length M x.1 1 (nats x.2) ∧ x.2.Pairwise (· < ·) ∧ (∀ p, p ∈ x.2 ↔ p ∈ src.take k ∧ (p : Int) ≠ but)) (.nils, []) rfl (fun _ => rfl) rfl (by omega) (by simp (maxDischargeDepth := 30) only [amL, args0, Nat.reduceEqDiff, reduceCtorEq, ↓reduceIte, Nat.reduceAdd, resultsA, results1, Int.reduceNeg, splice, Nat.reduceLeDiff, part, fillA, fillE, Nat.reduceLT]) (by simp (maxDischargeDepth := 30) only [amL, args0, Nat.reduceEqDiff, reduceCtorEq, ↓reduceIte, Nat.reduceAdd, resultsA, results1, Int.reduceNeg, splice, Nat.reduceLeDiff, part, fillA, fillE, Nat.reduceLT]) (by simp (maxDischargeDepth := 30) only [amL, args0, Nat.reduceEqDiff, reduceCtorEq, ↓reduceIte, Nat.reduceAdd, resultsA, results1, Int.reduceNeg, splice, Nat.reduceLeDiff, part, fillA, fillE, Nat.reduceLT])
    ⟨Grow.refl _, .inl ⟨rfl, rfl⟩, by simp, by simp⟩ ?_ ?_
  · rintro k ⟨u, l⟩ fr M hk ⟨f17, f16, f2, f3, f7, f15, -⟩ ⟨hg, hgs, hsrt, hmem⟩
    obtain ⟨q, hq⟩ : ∃ q, src[k]? = some q := ⟨_, List.getElem?_eq_getElem hk⟩
    have hsl' := hsrc.grow (hg0.trans hg)
    have ix := hsl'.index (ki := .i64) (n := k) (by omega) (by omega)
    have ld := fun o j => hsl'.load (o := o) (k := j) (nats_get hq)
    simp only [Int.toNat_natCast] at ix
    have htk : src.take (k + 1) = src.take k ++ [q] := by obtain ⟨h1, h2⟩ := List.getElem?_eq_some_iff.1 hq; rw [List.take_succ_eq_append_getElem h1, h2]
    by_cases hb : (q : Int) = but
    · have hb' : ¬ (q : Int) ≠ but := fun h => h hb
      simp (maxDischargeDepth := 30) only [f17, f16, f2, f3, f7, f15, ix, ld, hb, amL, args0, Nat.reduceEqDiff, reduceCtorEq, ↓reduceIte, Nat.reduceAdd, resultsA, results1, Int.reduceNeg, splice, Nat.reduceLeDiff, part, fillA, fillE, Nat.reduceLT]
      refine ⟨(u, l), by simp (maxDischargeDepth := 30) only [f17, f16, f2, f3, f7, f15, amL, args0, Nat.reduceEqDiff, reduceCtorEq, ↓reduceIte, Nat.reduceAdd, resultsA, results1, Int.reduceNeg, splice, Nat.reduceLeDiff, part, fillA, fillE, Nat.reduceLT], hg, hgs, hsrt, fun p => ?_⟩
      rw [hmem, htk, List.mem_append, List.mem_singleton]
      constructor
      · rintro ⟨a, b⟩; exact ⟨.inl a, b⟩
      · rintro ⟨a | rfl, b⟩
        · exact ⟨a, b⟩
        · exact absurd hb b
    · simp (maxDischargeDepth := 30) only [f17, f16, f2, f3, f7, f15, ix, ld, hb, amL, args0, Nat.reduceEqDiff, reduceCtorEq, ↓reduceIte, Nat.reduceAdd, resultsA, results1, Int.reduceNeg, splice, Nat.reduceLeDiff, part, fillA, fillE, Nat.reduceLT]
      have hll : l.length ≤ 4096 := Nat.le_trans (sorted_len hsrt fun p hp => hsl p (List.mem_of_mem_take ((hmem p).1 hp).1)) hn4
      refine (put_spec (l := l) q hgs (by omega) (by have := (hg0.trans hg).len; omega)).mono ?_
      rintro r M' ⟨hg', hgs'⟩
      simp (maxDischargeDepth := 30) only [aft_mk, f17, f16, f2, f3, f7, f15, amL, args0, Nat.reduceEqDiff, reduceCtorEq, ↓reduceIte, Nat.reduceAdd, resultsA, results1, Int.reduceNeg, splice, Nat.reduceLeDiff, part, fillA, fillE, Nat.reduceLT]
      refine ⟨(r, putN l q), by simp (maxDischargeDepth := 30) only [f17, f16, f2, f3, f7, f15, amL, args0, Nat.reduceEqDiff, reduceCtorEq, ↓reduceIte, Nat.reduceAdd, resultsA, results1, Int.reduceNeg, splice, Nat.reduceLeDiff, part, fillA, fillE, Nat.reduceLT], hg.trans hg', hgs', putN_sorted hsrt, fun p => ?_⟩
      rw [mem_putN, hmem, htk, List.mem_append, List.mem_singleton]
      constructor
      · rintro (rfl | ⟨a, b⟩)
        · exact ⟨.inr rfl, hb⟩
        · exact ⟨.inl a, b⟩
      · rintro ⟨a | rfl, b⟩
        · exact .inr ⟨a, b⟩
        · exact .inl rfl
  · rintro ⟨u, l⟩ fr M ⟨f2, f3, f7, f15, -⟩ ⟨hg, hgs, hsrt, hmem⟩
    rw [List.take_length] at hmem
    simp (maxDischargeDepth := 30) only [amL, args0, Nat.reduceEqDiff, reduceCtorEq, ↓reduceIte, Nat.reduceAdd, resultsA, results1, Int.reduceNeg, splice, Nat.reduceLeDiff, part, fillA, fillE, Nat.reduceLT]
    refine W_loop (fun k fr M => ∃ (u : V) (l : List Nat), k = N.length - l.length ∧ fr 2 = .int .i64 but ∧ fr 3 = .ptr m.length 0 0 ∧ fr 7 = u ∧ Grow M0 M ∧ GS m.length M u 1 (nats l) ∧ l.Pairwise (· < ·) ∧ (∀ p, p ∈ src → (p : Int) ≠ but → p ∈ l) ∧ ∀ p, p ∈ l → ∃ j, Pth (toN N) src but j p) ?_ _ ⟨u, l, rfl, f2, f3, f7, hg, hgs, hsrt, fun p h1 h2 => (hmem p).2 ⟨h1, h2⟩, fun p hp => ⟨0, .start ((hmem p).1 hp).1 ((hmem p).1 hp).2⟩⟩
    clear f2 f3 f7 f15 hg hgs hsrt hmem
    rintro k fr M ⟨u, l, rfl, f2, f3, f7, hg, hgs, hsrt, hst, hway⟩
    have hln := hbnd l hsrt hway
    have hul := hgs.sl.len
    simp only [List.length_map] at hul
    unfold ref31_from_l1
    simp (maxDischargeDepth := 30) only [f2, f3, f7, hul, amL, args0, Nat.reduceEqDiff, reduceCtorEq, ↓reduceIte, Nat.reduceAdd, resultsA, results1, Int.reduceNeg, splice, Nat.reduceLeDiff, part, fillA, fillE, Nat.reduceLT]
    refine W_range (α := V × List Nat) l.length [2, 3, 7, 10, 29] (fun x => [(2, .int .i64 but), (3, .ptr m.length 0 0), (7, u), (10, x.1), (29, u)])
      (fun k x M' => Grow M M' ∧ GS m.length M' x.1 1 (nats x.2) ∧ FromI (toN N) src but N.length l (fun p q => p ∈ l.take k ∧ q ∈ toN N p ∧ (q : Int) ≠ but) x.2) (u, l) rfl (fun _ => rfl) rfl (by omega) (by simp (maxDischargeDepth := 30) only [amL, args0, Nat.reduceEqDiff, reduceCtorEq, ↓reduceIte, Nat.reduceAdd, resultsA, results1, Int.reduceNeg, splice, Nat.reduceLeDiff, part, fillA, fillE, Nat.reduceLT]) (by simp (maxDischargeDepth := 30) only [amL, args0, Nat.reduceEqDiff, reduceCtorEq, ↓reduceIte, Nat.reduceAdd, resultsA, results1, Int.reduceNeg, splice, Nat.reduceLeDiff, part, fillA, fillE, Nat.reduceLT]) (by simp (maxDischargeDepth := 30) only [f2, f3, f7, amL, args0, Nat.reduceEqDiff, reduceCtorEq, ↓reduceIte, Nat.reduceAdd, resultsA, results1, Int.reduceNeg, splice, Nat.reduceLeDiff, part, fillA, fillE, Nat.reduceLT])
      ⟨Grow.refl _, hgs, hsrt, hway, fun _ h => h, fun _ p q h => by simp at h, Nat.le_refl _, fun _ => rfl⟩ ?_ ?_
    · rintro k ⟨u1, l1⟩ fr M1 hk ⟨g31, g30, g2, g3, g7, g10, g29, -⟩ ⟨hg1, hgs1, hF⟩
      obtain ⟨p, hp⟩ : ∃ p, l[k]? = some p := ⟨_, List.getElem?_eq_getElem hk⟩
      obtain ⟨jp, hjp⟩ := hway p (List.mem_of_getElem? hp)
      have hpN := hpl jp p hjp
      obtain ⟨x, hx⟩ : ∃ x, N[p]? = some x := ⟨_, List.getElem?_eq_getElem hpN⟩
      obtain ⟨tv, he, ht⟩ := hnd p x hx
      rw [hto p x hx, ← nats_ints] at ht
      have hG1 := (hg0.trans hg).trans hg1
      have hul' := hgs.sl.grow hg1
      have ix := hul'.index (ki := .i64) (n := k) (by omega) (by simp; omega)
      have ld := fun o j => hul'.load (o := o) (k := j) (nats_get hp)
      have hn' := hn.grow hG1
      have ixn := hn'.index (ki := .i64) (n := p) (by omega) (by omega)
      have ldn := fun o j => hn'.load (o := o) (k := j) he
      have ldT := fun j k => load_at0 (k := k) (j := j) ((hg.trans hg1).get hT)
      simp only [Int.toNat_natCast] at ix ixn
      have ht1 := ht.grow hG1
      have htl := ht1.len
      simp only [List.length_map] at htl
      have htk : l.take (k + 1) = l.take k ++ [p] := by obtain ⟨h1, h2⟩ := List.getElem?_eq_some_iff.1 hp; rw [List.take_succ_eq_append_getElem h1, h2]
      have htof : (toN N p).length < 2 ^ 60 := by have := hf.2.2 x (List.mem_of_getElem? hx); rw [hto p x hx] at this; simpa using this
      simp (maxDischargeDepth := 30) only [g31, g30, g2, g3, g7, g10, g29, ix, ld, ldT, ixn, ldn, htl, amL, args0, Nat.reduceEqDiff, reduceCtorEq, ↓reduceIte, Nat.reduceAdd, resultsA, results1, Int.reduceNeg, splice, Nat.reduceLeDiff, part, fillA, fillE, Nat.reduceLT]
      refine W_range (α := V × List Nat) (toN N p).length [2, 3, 7, 10, 29, 30, 31, 40] (fun x => [(2, .int .i64 but), (3, .ptr m.length 0 0), (7, u), (10, x.1), (29, u), (30, .int .i64 l.length), (31, .int .i64 (k : Nat)), (40, tv)])
        (fun i x M' => Grow M M' ∧ GS m.length M' x.1 1 (nats x.2) ∧ FromI (toN N) src but N.length l (fun p' q => (p' ∈ l.take k ∧ q ∈ toN N p' ∧ (q : Int) ≠ but) ∨ (p' = p ∧ q ∈ (toN N p).take i ∧ (q : Int) ≠ but)) x.2) (u1, l1) rfl (fun _ => rfl) rfl (by omega) (by simp (maxDischargeDepth := 30) only [amL, args0, Nat.reduceEqDiff, reduceCtorEq, ↓reduceIte, Nat.reduceAdd, resultsA, results1, Int.reduceNeg, splice, Nat.reduceLeDiff, part, fillA, fillE, Nat.reduceLT]) (by simp (maxDischargeDepth := 30) only [amL, args0, Nat.reduceEqDiff, reduceCtorEq, ↓reduceIte, Nat.reduceAdd, resultsA, results1, Int.reduceNeg, splice, Nat.reduceLeDiff, part, fillA, fillE, Nat.reduceLT]) (by simp (maxDischargeDepth := 30) only [g31, g30, g2, g3, g7, g10, g29, amL, args0, Nat.reduceEqDiff, reduceCtorEq, ↓reduceIte, Nat.reduceAdd, resultsA, results1, Int.reduceNeg, splice, Nat.reduceLeDiff, part, fillA, fillE, Nat.reduceLT])
        ⟨hg1, hgs1, hF.srt, hF.way, hF.sub, fun e p' q h => hF.eq e p' q (h.elim id fun ⟨_, h, _⟩ => by rw [List.take_zero] at h; cases h), hF.len, hF.lt⟩ ?_ ?_
      · rintro i ⟨u2, l2⟩ fr M2 hi ⟨k42, k41, k2, k3, k7, k10, k29, k30, k31, k40, -⟩ ⟨hg2, hgs2, hF2⟩
        obtain ⟨q, hq⟩ : ∃ q, (toN N p)[i]? = some q := ⟨_, List.getElem?_eq_getElem hi⟩
        have ht2 := ht.grow ((hg0.trans hg).trans hg2)
        have ix2 := ht2.index (ki := .i64) (n := i) (by omega) (by simp; omega)
        have ld2 := fun o j => ht2.load (o := o) (k := j) (nats_get hq)
        simp only [Int.toNat_natCast] at ix2
        have htk2 : (toN N p).take (i + 1) = (toN N p).take i ++ [q] := by obtain ⟨h1, h2⟩ := List.getElem?_eq_some_iff.1 hq; rw [List.take_succ_eq_append_getElem h1, h2]
        by_cases hb : (q : Int) = but
        · simp (maxDischargeDepth := 30) only [k42, k41, k2, k3, k7, k10, k29, k30, k31, k40, ix2, ld2, hb, amL, args0, Nat.reduceEqDiff, reduceCtorEq, ↓reduceIte, Nat.reduceAdd, resultsA, results1, Int.reduceNeg, splice, Nat.reduceLeDiff, part, fillA, fillE, Nat.reduceLT]
          refine ⟨(u2, l2), by simp (maxDischargeDepth := 30) only [k42, k41, k2, k3, k7, k10, k29, k30, k31, k40, amL, args0, Nat.reduceEqDiff, reduceCtorEq, ↓reduceIte, Nat.reduceAdd, resultsA, results1, Int.reduceNeg, splice, Nat.reduceLeDiff, part, fillA, fillE, Nat.reduceLT], hg2, hgs2, hF2.srt, hF2.way, hF2.sub, fun e p' q' h => hF2.eq e p' q' ?_, hF2.len, hF2.lt⟩
          rcases h with h | ⟨h1, h2, h3⟩
          · exact .inl h
          · rw [htk2, List.mem_append, List.mem_singleton] at h2
            rcases h2 with h2 | rfl
            · exact .inr ⟨h1, h2, h3⟩
            · exact absurd hb h3
        · simp (maxDischargeDepth := 30) only [k42, k41, k2, k3, k7, k10, k29, k30, k31, k40, ix2, ld2, hb, amL, args0, Nat.reduceEqDiff, reduceCtorEq, ↓reduceIte, Nat.reduceAdd, resultsA, results1, Int.reduceNeg, splice, Nat.reduceLeDiff, part, fillA, fillE, Nat.reduceLT]
          have hll := hbnd l2 hF2.srt hF2.way
          refine (put_spec (l := l2) q hgs2 (by omega) (by have := ((hg0.trans hg).trans hg2).len; omega)).mono ?_
          rintro r M' ⟨hg', hgs'⟩
          simp (maxDischargeDepth := 30) only [aft_mk, k42, k41, k2, k3, k7, k10, k29, k30, k31, k40, amL, args0, Nat.reduceEqDiff, reduceCtorEq, ↓reduceIte, Nat.reduceAdd, resultsA, results1, Int.reduceNeg, splice, Nat.reduceLeDiff, part, fillA, fillE, Nat.reduceLT]
          refine ⟨(r, putN l2 q), by simp (maxDischargeDepth := 30) only [k42, k41, k2, k3, k7, k10, k29, k30, k31, k40, amL, args0, Nat.reduceEqDiff, reduceCtorEq, ↓reduceIte, Nat.reduceAdd, resultsA, results1, Int.reduceNeg, splice, Nat.reduceLeDiff, part, fillA, fillE, Nat.reduceLT], hg2.trans hg', hgs', hF2.put ⟨jp + 1, .step hjp (List.mem_of_getElem? hq) hb⟩ fun p' q' h => ?_⟩
          rcases h with h | ⟨h1, h2, h3⟩
          · exact .inl (.inl h)
          · rw [htk2, List.mem_append, List.mem_singleton] at h2
            rcases h2 with h2 | rfl
            · exact .inl (.inr ⟨h1, h2, h3⟩)
            · exact .inr rfl
      · rintro ⟨u2, l2⟩ fr M2 ⟨k2, k3, k7, k10, k29, k30, k31, k40, -⟩ ⟨hg2, hgs2, hF2⟩
        rw [List.take_length] at hF2
        simp (maxDischargeDepth := 30) only [amL, args0, Nat.reduceEqDiff, reduceCtorEq, ↓reduceIte, Nat.reduceAdd, resultsA, results1, Int.reduceNeg, splice, Nat.reduceLeDiff, part, fillA, fillE, Nat.reduceLT]
        refine ⟨(u2, l2), by simp (maxDischargeDepth := 30) only [k2, k3, k7, k10, k29, k30, k31, k40, amL, args0, Nat.reduceEqDiff, reduceCtorEq, ↓reduceIte, Nat.reduceAdd, resultsA, results1, Int.reduceNeg, splice, Nat.reduceLeDiff, part, fillA, fillE, Nat.reduceLT], hg2, hgs2, hF2.srt, hF2.way, hF2.sub, fun e p' q' h => hF2.eq e p' q' ?_, hF2.len, hF2.lt⟩
        rw [htk, List.mem_append, List.mem_singleton] at h
        obtain ⟨h1 | rfl, h2⟩ := h
        · exact .inl ⟨h1, h2⟩
        · exact .inr ⟨rfl, h2⟩
    · rintro ⟨u1, l1⟩ fr M1 ⟨g2, g3, g7, g10, g29, -⟩ ⟨hg1, hgs1, hF⟩
      rw [List.take_length] at hF
      have hul1 := hgs1.sl.len
      simp only [List.length_map] at hul1
      have hln1 := hbnd l1 hF.srt hF.way
      by_cases he : l1.length = l.length
      · have he' : ((l1.length : Int) = l.length) = True := eq_true (by omega)
        have hll := hF.lt he
        subst hll
        simp (maxDischargeDepth := 30) only [g2, g3, g7, g10, g29, hul, hul1, he', decide_true, amL, args0, Nat.reduceEqDiff, reduceCtorEq, ↓reduceIte, Nat.reduceAdd, resultsA, results1, Int.reduceNeg, splice, Nat.reduceLeDiff, part, fillA, fillE, Nat.reduceLT]
        refine ⟨(hg0.trans hg).trans hg1, l1, hgs.keep fun c y _ hy => hg1.get hy, hsrt, fun p => ⟨hway p, ?_⟩⟩
        rintro ⟨j, h⟩
        induction h with
        | start h1 h2 => exact hst _ h1 h2
        | step _ h2 h3 ih => exact hF.eq rfl _ _ ⟨ih, h2, h3⟩
      · have he' : ¬ ((l1.length : Int) = l.length) := by omega
        simp (maxDischargeDepth := 30) only [g2, g3, g7, g10, g29, hul, hul1, he', decide_false, amL, args0, Nat.reduceEqDiff, reduceCtorEq, ↓reduceIte, Nat.reduceAdd, resultsA, results1, Int.reduceNeg, splice, Nat.reduceLeDiff, part, fillA, fillE, Nat.reduceLT]
        have : l.length ≤ l1.length := hF.len
        refine ⟨_, ?_, u1, l1, rfl, rfl, hg.trans hg1, hgs1, hF.srt, fun p h1 h2 => hF.sub p (hst p h1 h2), hF.way⟩
        omega
theorem refReached_spec {m : Mem} {nv rv : V} {N : List NodeA} {R : List Int} (hG : Gr m nv rv N R) (hf : Fits N R) (ha : ∀ x, x ∈ N → 0 ≤ x.addr) : C S n_ref31_Reached [.agg [nv, rv]] m (fun r m' => Grow m m' ∧ ((validG N R = false ∧ r = .tup [.nils, .int .i64 2]) ∨ (validG N R = true ∧ ∃ v l, r = .tup [v, .int .i64 0] ∧ Sl m' v 1 (nats l) ∧ l.Pairwise (· < ·) ∧ ∀ p, p ∈ l ↔ p < N.length ∧ Live N R p))) := by
  refine C_body rfl rfl rfl ?_
  unfold ref31_Reached
  obtain ⟨hc1, hc2⟩ := hG.cells
  simp (maxDischargeDepth := 30) only [hc1, hc2, amL, args0, Nat.reduceEqDiff, reduceCtorEq, ↓reduceIte, Nat.reduceAdd, resultsA, results1, Int.reduceNeg, splice, Nat.reduceLeDiff, part, fillA, fillE, Nat.reduceLT]
  refine (refCheck_spec (hG.grow (Grow.refl _).app) hf ha).mono ?_
  rintro _ M1 ⟨rfl, hg1⟩
  have hgm1 : Grow m M1 := (Grow.refl m).app.trans hg1
  have hT1 : M1[m.length]? = some (.cells true [[nv, rv]]) := hg1.get (by simp)
  cases hval : validG N R with
  | false =>
    have c2 : ¬ (2 : Int) = 0 := by decide
    simp (maxDischargeDepth := 30) only [aft_mk, c2, Bool.false_eq_true, amL, args0, Nat.reduceEqDiff, reduceCtorEq, ↓reduceIte, Nat.reduceAdd, resultsA, results1, Int.reduceNeg, splice, Nat.reduceLeDiff, part, fillA, fillE, Nat.reduceLT]
    exact ⟨hgm1, .inl trivial⟩
  | true =>
    obtain ⟨hn, hto, hlt, hR, hRl, _⟩ := valid_to hval
    have c00 : ¬ ¬ (0 : Int) = 0 := by omega
    have ldT1 := fun j k => load_at0 (k := k) (j := j) hT1
    simp (maxDischargeDepth := 30) only [aft_mk, c00, ldT1, hc1, hc2, amL, args0, Nat.reduceEqDiff, reduceCtorEq, ↓reduceIte, Nat.reduceAdd, resultsA, results1, Int.reduceNeg, splice, Nat.reduceLeDiff, part, fillA, fillE, Nat.reduceLT]
    have hG1 := hG.grow hgm1
    have hrs : Sl M1 rv 1 (nats (rootsN R)) := by
      have h1 := hG1.1
      rw [hR] at h1
      rw [nats_ints]; exact h1
    refine (from_spec (but := -1) hG1 hf hval (.inl hrs) hRl (by have := hf.2.1; simpa [rootsN] using this)).mono ?_
    rintro v M2 ⟨hg2, l, hgs, hsrt, hmem⟩
    simp (maxDischargeDepth := 30) only [aft_mk, amL, args0, Nat.reduceEqDiff, reduceCtorEq, ↓reduceIte, Nat.reduceAdd, resultsA, results1, Int.reduceNeg, splice, Nat.reduceLeDiff, part, fillA, fillE, Nat.reduceLT]
    refine ⟨hgm1.trans hg2, .inr ⟨v, l, rfl, hgs.sl, hsrt, fun p => ?_⟩⟩
    rw [hmem, pth_rch]
    exact ⟨fun h => ⟨pth_lt hRl hlt (pth_rch.2 h).choose_spec, h⟩, fun h => h.2⟩
end Go.AM.G
