/- Part of the proof: contracts of functions of the given program on an abstract machine. -/
import Derived.Test.YtnpefpiggklimaaAmAll
import Derived.Test.YtnpefpiggklimaaAmMem
import Derived.Test.YtnpefpiggklimaaGraphTab
import Derived.Test.YtnpefpiggklimaaGraphT
set_option linter.unusedVariables false
set_option linter.unusedSimpArgs false
set_option maxRecDepth 100000
namespace Go.AM.G
open Go Go.AM
def X0 : Told := fun _ => none
theorem Xmono0 : ToldMono X0 := fun f t h => by cases h
def X : Told := fun f => if f = n_law31_lives then some (fun _ args m => match args with | [] => some (.bool true, m) | _ => none) else none
theorem Xmono : ToldMono X := by
  intro f t h c c' hc a m r e
  unfold X at h
  split at h
  · cases h; exact e
  · cases h
def S : Sys := ⟨fun f => tab.lookup f, X, Xmono⟩
theorem lives_spec {m : Mem} : C S n_law31_lives [] m (fun r m' => r = .bool true ∧ m = m') := ⟨1, _, _, rfl, rfl, rfl⟩
abbrev i64s (l : List Int) : List (List V) := l.map fun k => [.int .i64 k]
theorem i64s_get {l : List Int} {i : Nat} {x : Int} (h : l[i]? = some x) : (i64s l)[i]? = some [.int .i64 x] := by simp [h]
theorem i64s_len {l : List Int} : (i64s l).length = l.length := by simp
/-- a slice that is read alone. -/
def SlR (M : Mem) (v : V) (z : Nat) (els : List (List V)) : Prop := Sl M v z els ∨ (els = [] ∧ v = .emp)
section
variable {M g : Mem} {v : V} {z : Nat} {els : List (List V)} {k : Option Nat} {i o : Nat} {el : List V}
theorem SlR.len (h : SlR M v z els) : asLen v = some (.int .i64 els.length) := by
  rcases h with h | ⟨rfl, rfl⟩
  · exact h.len
  · rfl
theorem SlR.index (h : SlR M v z els) {ki : IntKind} {n : Int} (h0 : 0 ≤ n) (hn : n < els.length) : asIndex z v (.int ki n) = some (atp v n.toNat 0) := by
  rcases h with h | ⟨rfl, rfl⟩
  · exact h.index h0 hn
  · simp at hn; omega
theorem SlR.load (h : SlR M v z els) (hi : els[i]? = some el) : loadV M k (atp v i o) = part el o k := by
  rcases h with h | ⟨rfl, rfl⟩
  · exact h.load hi
  · simp at hi
theorem SlR.cell (h : SlR M v z els) : v.isCell = true := by
  rcases h with h | ⟨_, rfl⟩
  · exact h.cell
  · rfl
theorem SlR.app (h : SlR M v z els) : SlR (M ++ g) v z els := h.imp (fun h => h.app) id
theorem SlR.grow {M' : Mem} (h : SlR M v z els) (hg : Grow M M') : SlR M' v z els := h.imp (fun h => h.grow hg) id
end
structure NodeA where
  addr : Int
  words : Int
  to : List Int
instance : Inhabited NodeA := ⟨⟨0, 0, []⟩⟩
/-- a graph in the memory. -/
def Gr (M : Mem) (nv rv : V) (N : List NodeA) (R : List Int) : Prop := Sl M rv 1 (i64s R) ∧ ∃ els, Sl M nv 3 els ∧ els.length = N.length ∧ ∀ (i : Nat) (nd : NodeA), N[i]? = some nd → ∃ tv, els[i]? = some [.int .u64 nd.addr, .int .i64 nd.words, tv] ∧ SlR M tv 1 (i64s nd.to)
theorem Gr.grow {M M' : Mem} {nv rv : V} {N : List NodeA} {R : List Int} (h : Gr M nv rv N R) (hg : Grow M M') : Gr M' nv rv N R := by
  obtain ⟨h1, els, h2, h3, h4⟩ := h
  refine ⟨h1.grow hg, els, h2.grow hg, h3, fun i nd hi => ?_⟩
  obtain ⟨tv, a, b⟩ := h4 i nd hi
  exact ⟨tv, a, b.grow hg⟩
/-- do places rise? -/
def risesB (n : Int) : Int → List Int → Bool
  | _, [] => true
  | last, p :: r => decide (last < p ∧ p < n) && risesB n p r
theorem risesB_drop {n last : Int} {l : List Int} {i : Nat} {x : Int} (h : l[i]? = some x) : risesB n last (l.drop i) = (decide (last < x ∧ x < n) && risesB n x (l.drop (i + 1))) := by
  obtain ⟨hi, e⟩ := List.getElem?_eq_some_iff.1 h
  rw [List.drop_eq_getElem_cons hi, e]
  rfl
theorem rises_spec {m : Mem} {v : V} {l : List Int} (n : Int) (hv : SlR m v 1 (i64s l)) (hl : l.length < 2 ^ 60) : C S n_graph_rises [v, .int .i64 n] m (fun r m' => r = .bool (risesB n (-1) l) ∧ m = m') := by
  refine C_body rfl rfl rfl ?_
  unfold graph_rises
  have hlen : (i64s l).length = l.length := by simp
  simp (maxDischargeDepth := 30) only [hv.len, hlen, amL, args0, Nat.reduceEqDiff, reduceCtorEq, ↓reduceIte, Nat.reduceAdd, resultsA, results1, Int.reduceNeg, splice, Nat.reduceLeDiff, part, fillA, fillE, Nat.reduceLT]
  let I := fun (k : Nat) (fr : Frame) (M : Mem) => ∃ (i : Nat) (last : Int), i ≤ l.length ∧ k = l.length - i ∧ fr 1 = .int .i64 n ∧ fr 5 = .int .i64 last ∧ fr 8 = v ∧ fr 9 = .int .i64 l.length ∧ fr 10 = .int .i64 i ∧ risesB n last (l.drop i) = risesB n (-1) l ∧ M = m
  refine W_loop I ?_ l.length ?_
  · rintro k fr M ⟨i, last, hi, rfl, f1, f5, f8, f9, f10, hr, rfl⟩
    unfold graph_rises_l0
    simp (maxDischargeDepth := 30) only [f1, f5, f8, f9, f10, amL, args0, Nat.reduceEqDiff, reduceCtorEq, ↓reduceIte, Nat.reduceAdd, resultsA, results1, Int.reduceNeg, splice, Nat.reduceLeDiff, part, fillA, fillE, Nat.reduceLT]
    first | (refine O_split (by simp only [put_apply, Nat.reduceEqDiff, ↓reduceIte, reduceCtorEq]; rfl) (fun h => ?_) (fun h => ?_) <;> simp only [decide_eq_true_eq, decide_eq_false_iff_not, Decidable.not_not, Bool.and_eq_true, Bool.not_eq_true', Bool.not_eq_false'] at h) | (refine W_split (by simp only [get_t, put_apply, Nat.reduceEqDiff, ↓reduceIte, reduceCtorEq]; rfl) (fun h => ?_) (fun h => ?_) <;> simp only [decide_eq_true_eq, decide_eq_false_iff_not, Decidable.not_not, Bool.and_eq_true, Bool.not_eq_true', Bool.not_eq_false'] at h)
    · have hil : i < l.length := by omega
      obtain ⟨x, hx⟩ : ∃ x, l[i]? = some x := ⟨_, List.getElem?_eq_getElem hil⟩
      have ix := hv.index (ki := .i64) (n := i) (by omega) (by omega)
      have ld := fun o j => hv.load (o := o) (k := j) (i64s_get hx)
      simp only [Int.toNat_natCast] at ix ld
      have w1 : IntKind.i64.wrap ((i : Int) + 1) = ((i + 1 : Nat) : Int) := by rw [wrap_i64] <;> omega
      rw [risesB_drop hx] at hr
      by_cases h1 : x ≤ last
      · have : decide (last < x ∧ x < n) = false := by simp; omega
        rw [this, Bool.false_and] at hr
        simp (maxDischargeDepth := 30) only [h, f1, f5, f8, f9, f10, ix, ld, h1, ← hr, amL, args0, Nat.reduceEqDiff, reduceCtorEq, ↓reduceIte, Nat.reduceAdd, resultsA, results1, Int.reduceNeg, splice, Nat.reduceLeDiff, part, fillA, fillE, Nat.reduceLT]
      by_cases h2 : n ≤ x
      · have : decide (last < x ∧ x < n) = false := by simp; omega
        rw [this, Bool.false_and] at hr
        simp (maxDischargeDepth := 30) only [h, f1, f5, f8, f9, f10, ix, ld, h1, h2, ← hr, amL, args0, Nat.reduceEqDiff, reduceCtorEq, ↓reduceIte, Nat.reduceAdd, resultsA, results1, Int.reduceNeg, splice, Nat.reduceLeDiff, part, fillA, fillE, Nat.reduceLT]
      have : decide (last < x ∧ x < n) = true := by simp; omega
      rw [this, Bool.true_and] at hr
      simp (maxDischargeDepth := 30) only [h, f1, f5, f8, f9, f10, ix, ld, h1, h2, w1, amL, args0, Nat.reduceEqDiff, reduceCtorEq, ↓reduceIte, Nat.reduceAdd, resultsA, results1, Int.reduceNeg, splice, Nat.reduceLeDiff, part, fillA, fillE, Nat.reduceLT]
      refine ⟨_, ?_, i + 1, x, by omega, rfl, ?_, ?_, ?_, ?_, ?_, hr, rfl⟩
      · omega
      all_goals simp (maxDischargeDepth := 30) only [f1, f8, f9, amL, args0, Nat.reduceEqDiff, reduceCtorEq, ↓reduceIte, Nat.reduceAdd, resultsA, results1, Int.reduceNeg, splice, Nat.reduceLeDiff, part, fillA, fillE, Nat.reduceLT]
    · have : i = l.length := by omega
      subst this
      rw [List.drop_length] at hr
      simp (maxDischargeDepth := 30) only [h, f1, f5, f8, f9, f10, ← hr, risesB, amL, args0, Nat.reduceEqDiff, reduceCtorEq, ↓reduceIte, Nat.reduceAdd, resultsA, results1, Int.reduceNeg, splice, Nat.reduceLeDiff, part, fillA, fillE, Nat.reduceLT]
  · exact ⟨0, -1, by omega, rfl, by simp (maxDischargeDepth := 30) only [amL, args0, Nat.reduceEqDiff, reduceCtorEq, ↓reduceIte, Nat.reduceAdd, resultsA, results1, Int.reduceNeg, splice, Nat.reduceLeDiff, part, fillA, fillE, Nat.reduceLT], by simp (maxDischargeDepth := 30) only [amL, args0, Nat.reduceEqDiff, reduceCtorEq, ↓reduceIte, Nat.reduceAdd, resultsA, results1, Int.reduceNeg, splice, Nat.reduceLeDiff, part, fillA, fillE, Nat.reduceLT], by simp (maxDischargeDepth := 30) only [amL, args0, Nat.reduceEqDiff, reduceCtorEq, ↓reduceIte, Nat.reduceAdd, resultsA, results1, Int.reduceNeg, splice, Nat.reduceLeDiff, part, fillA, fillE, Nat.reduceLT], by simp (maxDischargeDepth := 30) only [amL, args0, Nat.reduceEqDiff, reduceCtorEq, ↓reduceIte, Nat.reduceAdd, resultsA, results1, Int.reduceNeg, splice, Nat.reduceLeDiff, part, fillA, fillE, Nat.reduceLT], by simp (maxDischargeDepth := 30) only [amL, args0, Nat.reduceEqDiff, reduceCtorEq, ↓reduceIte, Nat.reduceAdd, resultsA, results1, Int.reduceNeg, splice, Nat.reduceLeDiff, part, fillA, fillE, Nat.reduceLT]; rfl, rfl, rfl⟩
/-- is a graph right? -/
def nodesB (n : Int) : Int → List NodeA → Bool
  | _, [] => true
  | last, x :: r => decide (last < x.addr) && (decide (1 ≤ x.words ∧ x.words ≤ 49) && (risesB n (-1) x.to && nodesB n x.addr r))
def validG (N : List NodeA) (R : List Int) : Bool := decide (N.length ≤ 4096) && (risesB N.length (-1) R && nodesB N.length 0 N)
theorem nodesB_drop {n last : Int} {l : List NodeA} {i : Nat} {x : NodeA} (h : l[i]? = some x) : nodesB n last (l.drop i) = (decide (last < x.addr) && (decide (1 ≤ x.words ∧ x.words ≤ 49) && (risesB n (-1) x.to && nodesB n x.addr (l.drop (i + 1))))) := by
  obtain ⟨hi, e⟩ := List.getElem?_eq_some_iff.1 h
  rw [List.drop_eq_getElem_cons hi, e]
  rfl
/-- sizes that fit. -/
def Fits (N : List NodeA) (R : List Int) : Prop := N.length < 2 ^ 60 ∧ R.length < 2 ^ 60 ∧ ∀ x ∈ N, x.to.length < 2 ^ 60
theorem Gr.cells {M : Mem} {nv rv : V} {N : List NodeA} {R : List Int} (h : Gr M nv rv N R) : nv.isCell = true ∧ rv.isCell = true := by
  obtain ⟨h1, els, h2, _⟩ := h
  exact ⟨h2.cell, h1.cell⟩
theorem Check_spec {m : Mem} {nv rv : V} {N : List NodeA} {R : List Int} (hv : Gr m nv rv N R) (hf : Fits N R) : C S n_graph_Check [.agg [nv, rv]] m (fun r m' => r = .int .i64 (if validG N R = true then 0 else 2) ∧ Grow m m') := by
  refine C_body rfl rfl rfl ?_
  unfold graph_Check
  obtain ⟨hc1, hc2⟩ := hv.cells
  obtain ⟨hr, els, hn, hel, hnd⟩ := id hv
  have l0 : ∀ k, loadV (m ++ [Blk.cells true [[nv, rv]]]) k (.ptr m.length 0 0) = part [nv, rv] 0 k := fun k => load_at0 (own := true) (by simp)
  have l1 : ∀ k, loadV (m ++ [Blk.cells true [[nv, rv]]]) k (.ptr m.length 0 1) = part [nv, rv] 1 k := fun k => load_at0 (own := true) (by simp)
  by_cases h4 : (4096 : Int) < N.length
  · have : validG N R = false := by simp [validG]; omega
    simp (maxDischargeDepth := 30) only [hc1, hc2, hn.len, hel, l0, l1, h4, this, amL, args0, Nat.reduceEqDiff, reduceCtorEq, ↓reduceIte, Nat.reduceAdd, resultsA, results1, Int.reduceNeg, splice, Nat.reduceLeDiff, part, fillA, fillE, Nat.reduceLT]
    exact (Grow.refl _).app
  simp (maxDischargeDepth := 30) only [hc1, hc2, hn.len, hel, l0, l1, h4, amL, args0, Nat.reduceEqDiff, reduceCtorEq, ↓reduceIte, Nat.reduceAdd, resultsA, results1, Int.reduceNeg, splice, Nat.reduceLeDiff, part, fillA, fillE, Nat.reduceLT]
  refine (rises_spec N.length (.inl hr.app) hf.2.1).mono ?_
  rintro _ _ ⟨rfl, rfl⟩
  cases hrs : risesB N.length (-1) R with
  | false =>
    have : validG N R = false := by simp [validG, hrs]
    simp (maxDischargeDepth := 30) only [aft_mk, this, amL, args0, Nat.reduceEqDiff, reduceCtorEq, ↓reduceIte, Nat.reduceAdd, resultsA, results1, Int.reduceNeg, splice, Nat.reduceLeDiff, part, fillA, fillE, Nat.reduceLT]
    exact (Grow.refl _).app
  | true =>
    have hval : validG N R = nodesB N.length 0 N := by
      have : N.length ≤ 4096 := by omega
      simp [validG, hrs, this]
    simp (maxDischargeDepth := 30) only [aft_mk, hn.len, hel, l0, amL, args0, Nat.reduceEqDiff, reduceCtorEq, ↓reduceIte, Nat.reduceAdd, resultsA, results1, Int.reduceNeg, splice, Nat.reduceLeDiff, part, fillA, fillE, Nat.reduceLT]
    generalize hM0 : m ++ [Blk.cells true [[nv, rv]]] = M0
    have hg0 : Grow m M0 := by rw [← hM0]; exact (Grow.refl _).app
    clear hM0 l0 l1
    let I := fun (k : Nat) (fr : Frame) (M : Mem) => ∃ (i : Nat) (last : Int), i ≤ N.length ∧ k = N.length - i ∧ fr 3 = .int .i64 N.length ∧ fr 4 = .int .u64 last ∧ fr 20 = nv ∧ fr 21 = .int .i64 N.length ∧ fr 22 = .int .i64 i ∧ nodesB N.length last (N.drop i) = nodesB N.length 0 N ∧ Grow m M
    refine W_loop I ?_ N.length ?_
    · rintro k fr M ⟨i, last, hi, rfl, f3, f4, f20, f21, f22, hb, hg⟩
      unfold graph_Check_l0
      simp (maxDischargeDepth := 30) only [f3, f4, f20, f21, f22, amL, args0, Nat.reduceEqDiff, reduceCtorEq, ↓reduceIte, Nat.reduceAdd, resultsA, results1, Int.reduceNeg, splice, Nat.reduceLeDiff, part, fillA, fillE, Nat.reduceLT]
      first | (refine O_split (by simp only [put_apply, Nat.reduceEqDiff, ↓reduceIte, reduceCtorEq]; rfl) (fun h => ?_) (fun h => ?_) <;> simp only [decide_eq_true_eq, decide_eq_false_iff_not, Decidable.not_not, Bool.and_eq_true, Bool.not_eq_true', Bool.not_eq_false'] at h) | (refine W_split (by simp only [get_t, put_apply, Nat.reduceEqDiff, ↓reduceIte, reduceCtorEq]; rfl) (fun h => ?_) (fun h => ?_) <;> simp only [decide_eq_true_eq, decide_eq_false_iff_not, Decidable.not_not, Bool.and_eq_true, Bool.not_eq_true', Bool.not_eq_false'] at h)
      · have hil : i < N.length := by omega
        obtain ⟨x, hx⟩ : ∃ x, N[i]? = some x := ⟨_, List.getElem?_eq_getElem hil⟩
        obtain ⟨tv, he, ht⟩ := hnd i x hx
        have htc := ht.cell
        have hsl := hn.grow hg
        have ix := hsl.index (ki := .i64) (n := i) (by omega) (by omega)
        have ld := fun o j => hsl.load (o := o) (k := j) he
        simp only [Int.toNat_natCast] at ix ld
        have w1 : IntKind.i64.wrap ((i : Int) + 1) = ((i + 1 : Nat) : Int) := by rw [wrap_i64] <;> omega
        have lx : ∀ o j, loadV (M ++ [Blk.cells true [[V.int .u64 x.addr, V.int .i64 x.words, tv]]]) j (.ptr M.length 0 o) = part [V.int .u64 x.addr, V.int .i64 x.words, tv] o j := fun o j => load_at0 (own := true) (by simp)
        rw [nodesB_drop hx] at hb
        by_cases h1 : x.addr ≤ last
        · have : decide (last < x.addr) = false := by simp; omega
          rw [this, Bool.false_and] at hb
          simp (maxDischargeDepth := 30) only [h, f3, f4, f20, f21, f22, ix, ld, htc, lx, h1, hval, ← hb, amL, args0, Nat.reduceEqDiff, reduceCtorEq, ↓reduceIte, Nat.reduceAdd, resultsA, results1, Int.reduceNeg, splice, Nat.reduceLeDiff, part, fillA, fillE, Nat.reduceLT]
          exact hg.app
        by_cases h2 : x.words < 1
        · have : decide (1 ≤ x.words ∧ x.words ≤ 49) = false := by simp; omega
          rw [this, Bool.false_and, Bool.and_false] at hb
          simp (maxDischargeDepth := 30) only [h, f3, f4, f20, f21, f22, ix, ld, htc, lx, h1, h2, hval, ← hb, amL, args0, Nat.reduceEqDiff, reduceCtorEq, ↓reduceIte, Nat.reduceAdd, resultsA, results1, Int.reduceNeg, splice, Nat.reduceLeDiff, part, fillA, fillE, Nat.reduceLT]
          exact hg.app
        by_cases h3 : 49 < x.words
        · have : decide (1 ≤ x.words ∧ x.words ≤ 49) = false := by simp; omega
          rw [this, Bool.false_and, Bool.and_false] at hb
          simp (maxDischargeDepth := 30) only [h, f3, f4, f20, f21, f22, ix, ld, htc, lx, h1, h2, h3, hval, ← hb, amL, args0, Nat.reduceEqDiff, reduceCtorEq, ↓reduceIte, Nat.reduceAdd, resultsA, results1, Int.reduceNeg, splice, Nat.reduceLeDiff, part, fillA, fillE, Nat.reduceLT]
          exact hg.app
        have e1 : decide (last < x.addr) = true := by simp; omega
        have e2 : decide (1 ≤ x.words ∧ x.words ≤ 49) = true := by simp; omega
        rw [e1, e2, Bool.true_and, Bool.true_and] at hb
        simp (maxDischargeDepth := 30) only [h, f3, f4, f20, f21, f22, ix, ld, htc, lx, h1, h2, h3, amL, args0, Nat.reduceEqDiff, reduceCtorEq, ↓reduceIte, Nat.reduceAdd, resultsA, results1, Int.reduceNeg, splice, Nat.reduceLeDiff, part, fillA, fillE, Nat.reduceLT]
        refine (rises_spec N.length (ht.grow hg).app (hf.2.2 x (List.mem_of_getElem? hx))).mono ?_
        rintro _ _ ⟨rfl, rfl⟩
        cases hrx : risesB N.length (-1) x.to with
        | false =>
          rw [hrx, Bool.false_and] at hb
          simp (maxDischargeDepth := 30) only [aft_mk, hval, ← hb, amL, args0, Nat.reduceEqDiff, reduceCtorEq, ↓reduceIte, Nat.reduceAdd, resultsA, results1, Int.reduceNeg, splice, Nat.reduceLeDiff, part, fillA, fillE, Nat.reduceLT]
          exact hg.app
        | true =>
          rw [hrx, Bool.true_and] at hb
          simp (maxDischargeDepth := 30) only [aft_mk, lx, f3, f20, f21, f22, w1, amL, args0, Nat.reduceEqDiff, reduceCtorEq, ↓reduceIte, Nat.reduceAdd, resultsA, results1, Int.reduceNeg, splice, Nat.reduceLeDiff, part, fillA, fillE, Nat.reduceLT]
          refine ⟨_, ?_, i + 1, x.addr, by omega, rfl, ?_, ?_, ?_, ?_, ?_, hb, hg.app⟩
          · omega
          all_goals simp (maxDischargeDepth := 30) only [f3, f20, f21, amL, args0, Nat.reduceEqDiff, reduceCtorEq, ↓reduceIte, Nat.reduceAdd, resultsA, results1, Int.reduceNeg, splice, Nat.reduceLeDiff, part, fillA, fillE, Nat.reduceLT]
      · have : i = N.length := by omega
        subst this
        rw [List.drop_length] at hb
        simp (maxDischargeDepth := 30) only [h, f3, f4, f20, f21, f22, hval, ← hb, nodesB, amL, args0, Nat.reduceEqDiff, reduceCtorEq, ↓reduceIte, Nat.reduceAdd, resultsA, results1, Int.reduceNeg, splice, Nat.reduceLeDiff, part, fillA, fillE, Nat.reduceLT]
        exact hg
    · exact ⟨0, 0, by omega, rfl, by simp (maxDischargeDepth := 30) only [amL, args0, Nat.reduceEqDiff, reduceCtorEq, ↓reduceIte, Nat.reduceAdd, resultsA, results1, Int.reduceNeg, splice, Nat.reduceLeDiff, part, fillA, fillE, Nat.reduceLT], by simp (maxDischargeDepth := 30) only [amL, args0, Nat.reduceEqDiff, reduceCtorEq, ↓reduceIte, Nat.reduceAdd, resultsA, results1, Int.reduceNeg, splice, Nat.reduceLeDiff, part, fillA, fillE, Nat.reduceLT], by simp (maxDischargeDepth := 30) only [amL, args0, Nat.reduceEqDiff, reduceCtorEq, ↓reduceIte, Nat.reduceAdd, resultsA, results1, Int.reduceNeg, splice, Nat.reduceLeDiff, part, fillA, fillE, Nat.reduceLT], by simp (maxDischargeDepth := 30) only [amL, args0, Nat.reduceEqDiff, reduceCtorEq, ↓reduceIte, Nat.reduceAdd, resultsA, results1, Int.reduceNeg, splice, Nat.reduceLeDiff, part, fillA, fillE, Nat.reduceLT], by simp (maxDischargeDepth := 30) only [amL, args0, Nat.reduceEqDiff, reduceCtorEq, ↓reduceIte, Nat.reduceAdd, resultsA, results1, Int.reduceNeg, splice, Nat.reduceLeDiff, part, fillA, fillE, Nat.reduceLT]; rfl, rfl, hg0⟩
end Go.AM.G
