/- The plain law of the least of the shortest ways. -/
import Derived.Test.YtnpefpiggklimaaGraphHeldS
set_option linter.unusedVariables false
set_option linter.unusedSimpArgs false

namespace Go.AM.G
def FarOK (to : Nat → List Nat) (src : List Nat) (n : Nat) (far : Nat → Int) : Prop := (∀ p, 0 ≤ far p → Pth to src (-1) (far p).toNat p ∧ p < n) ∧ ∀ k p, Pth to src (-1) k p → 0 ≤ far p ∧ far p ≤ k
/-- on some shortest way to y. -/
inductive OnW (to : Nat → List Nat) (far : Nat → Int) (y : Nat) : Nat → Prop
  | here : OnW to far y y
  | step {p q : Nat} : OnW to far y q → q ∈ to p → far q = far p + 1 → 0 ≤ far p → OnW to far y p
def Lst (x : Nat) (P : Nat → Prop) : Prop := P x ∧ ∀ z, P z → x ≤ z
theorem Lst.uniq {P : Nat → Prop} {a b : Nat} (h : Lst a P) (g : Lst b P) : a = b := Nat.le_antisymm (h.2 b g.1) (g.2 a h.1)
/-- a way's beginning. -/
structure WayPre (to : Nat → List Nat) (src : List Nat) (far : Nat → Int) (y : Nat) (W : List Nat) : Prop where
  at0 : ∀ x, W[0]? = some x → Lst x (fun p => p ∈ src ∧ OnW to far y p)
  next : ∀ (k x z : Nat), W[k]? = some x → W[k + 1]? = some z → Lst z (fun q => q ∈ to x ∧ OnW to far y q ∧ far q = ((k + 1 : Nat) : Int))
def WayIs (to : Nat → List Nat) (src : List Nat) (far : Nat → Int) (y : Nat) (W : List Nat) : Prop := WayPre to src far y W ∧ (W.length : Int) = far y + 1
section
variable {to : Nat → List Nat} {src : List Nat} {n y : Nat} {far : Nat → Int}
theorem FarOK.zero (h : FarOK to src n far) {p : Nat} (hp : p ∈ src) : far p = 0 := by
  have := h.2 0 p (.start hp (by omega))
  omega
theorem FarOK.isSrc (h : FarOK to src n far) {p : Nat} (hp : far p = 0) : p ∈ src := by
  have := (h.1 p (by omega)).1
  rw [hp] at this
  cases this
  assumption
theorem FarOK.pred (h : FarOK to src n far) {q d : Nat} (hq : far q = ((d + 1 : Nat) : Int)) : ∃ p, far p = d ∧ q ∈ to p := by
  have h1 := (h.1 q (by omega)).1
  rw [hq] at h1
  have e : (((d + 1 : Nat) : Int)).toNat = d + 1 := by omega
  rw [e] at h1
  cases h1 with
  | @step k p q hp hqp _ =>
    obtain ⟨h2, h3⟩ := h.2 d p hp
    have h4 := (h.1 p h2).1
    have h5 := h.2 _ q (.step h4 hqp (by omega))
    exact ⟨p, by omega, hqp⟩
theorem FarOK.step (h : FarOK to src n far) {p q : Nat} (hp : 0 ≤ far p) (hq : q ∈ to p) : 0 ≤ far q ∧ far q ≤ far p + 1 := by
  have h1 := h.2 _ q (.step (h.1 p hp).1 hq (by omega))
  omega
theorem FarOK.bound (h : FarOK to src n far) : ∀ (d p : Nat), far p = (d : Int) → ∃ l : List Nat, l.Nodup ∧ l.length = d + 1 ∧ ∀ x, x ∈ l → 0 ≤ far x ∧ far x ≤ d
  | 0, p, hp => ⟨[p], by simp, rfl, fun x hx => by rw [List.mem_singleton.1 hx]; omega⟩
  | d + 1, p, hp => by
    obtain ⟨q, h1, _⟩ := h.pred hp
    obtain ⟨l, h2, h3, h4⟩ := h.bound d q h1
    refine ⟨p :: l, List.nodup_cons.2 ⟨fun hm => ?_, h2⟩, by simp [h3], fun x hx => ?_⟩
    · have := h4 p hm; omega
    · rcases List.mem_cons.1 hx with rfl | hx
      · omega
      · have := h4 x hx; omega
theorem FarOK.lt (h : FarOK to src n far) {p : Nat} (hp : 0 ≤ far p) : far p < n := by
  obtain ⟨l, h1, h2, h3⟩ := h.bound (far p).toNat p (by omega)
  have := nodup_le n l h1 fun x hx => (h.1 x (h3 x hx).1).2
  omega
theorem OnW.far_le {p : Nat} (hy : 0 ≤ far y) (h : OnW to far y p) : 0 ≤ far p ∧ (p = y ∨ far p < far y) := by
  induction h with
  | here => exact ⟨hy, .inl rfl⟩
  | step h1 _ h3 h4 ih =>
    refine ⟨h4, .inr ?_⟩
    rcases ih.2 with rfl | h5 <;> omega
theorem OnW.up {p : Nat} (h : OnW to far y p) (hp : p ≠ y) : ∃ q, q ∈ to p ∧ OnW to far y q ∧ far q = far p + 1 := by
  cases h with
  | here => exact absurd rfl hp
  | step h1 h2 h3 _ => exact ⟨_, h2, h1, h3⟩
theorem OnW.root (hf : FarOK to src n far) : ∀ (d q : Nat), OnW to far y q → far q = (d : Int) → ∃ p, p ∈ src ∧ OnW to far y p
  | 0, q, h, e => ⟨q, hf.isSrc e, h⟩
  | d + 1, q, h, e => by
    obtain ⟨p, h1, h2⟩ := hf.pred e
    exact OnW.root hf d p (.step h h2 (by omega) (by omega)) h1
theorem WayPre.get {W : List Nat} (h : WayPre to src far y W) (hf : FarOK to src n far) : ∀ (k x : Nat), W[k]? = some x → OnW to far y x ∧ far x = (k : Int)
  | 0, x, hx => by
    have := (h.at0 x hx).1
    exact ⟨this.2, hf.zero this.1⟩
  | k + 1, x, hx => by
    obtain ⟨z, hz⟩ : ∃ z, W[k]? = some z := ⟨_, List.getElem?_eq_getElem (by have := (List.getElem?_eq_some_iff.1 hx).1; omega)⟩
    have := (h.next k z x hz hx).1
    exact ⟨this.2.1, this.2.2⟩
theorem WayIs.uniq {W W' : List Nat} (h : WayIs to src far y W) (h' : WayIs to src far y W') : W = W' := by
  have hl : W.length = W'.length := by have := h.2; have := h'.2; omega
  apply List.ext_getElem?
  intro i
  induction i with
  | zero =>
    by_cases h0 : 0 < W.length
    · obtain ⟨a, ha⟩ : ∃ a, W[0]? = some a := ⟨_, List.getElem?_eq_getElem h0⟩
      obtain ⟨b, hb⟩ : ∃ b, W'[0]? = some b := ⟨_, List.getElem?_eq_getElem (by omega)⟩
      rw [ha, hb, (h.1.at0 a ha).uniq (h'.1.at0 b hb)]
    · rw [List.getElem?_eq_none (by omega), List.getElem?_eq_none (by omega)]
  | succ i ih =>
    by_cases h0 : i + 1 < W.length
    · obtain ⟨a, ha⟩ : ∃ a, W[i + 1]? = some a := ⟨_, List.getElem?_eq_getElem h0⟩
      obtain ⟨b, hb⟩ : ∃ b, W'[i + 1]? = some b := ⟨_, List.getElem?_eq_getElem (by omega)⟩
      obtain ⟨c, hc⟩ : ∃ c, W[i]? = some c := ⟨_, List.getElem?_eq_getElem (by omega)⟩
      have hc' : W'[i]? = some c := by rw [← ih]; exact hc
      rw [ha, hb, (h.1.next i c a hc ha).uniq (h'.1.next i c b hc' hb)]
    · rw [List.getElem?_eq_none (by omega), List.getElem?_eq_none (by omega)]
theorem WayPre.push {W : List Nat} {x z : Nat} (h : WayPre to src far y (W ++ [x])) (hz : Lst z (fun q => q ∈ to x ∧ OnW to far y q ∧ far q = ((W.length + 1 : Nat) : Int))) : WayPre to src far y (W ++ [x] ++ [z]) := by
  refine ⟨fun a ha => h.at0 a ?_, fun k a b ha hb => ?_⟩
  · rw [List.getElem?_append_left (by simp)] at ha; exact ha
  · by_cases hk : k + 1 < (W ++ [x]).length
    · rw [List.getElem?_append_left (by omega)] at ha
      rw [List.getElem?_append_left hk] at hb
      exact h.next k a b ha hb
    · have h1 := (List.getElem?_eq_some_iff.1 hb).1
      have h2 : k = W.length := by simp at h1 hk; omega
      subst h2
      rw [List.getElem?_append_left (by simp), List.getElem?_concat_length] at ha
      have e : W.length + 1 = (W ++ [x]).length := by simp
      rw [e, List.getElem?_concat_length] at hb
      cases ha
      cases hb
      exact hz
/-- a way is a path, each once. -/
theorem WayPre.path {W : List Nat} (h : WayPre to src far y W) {d : Int} (hd : ∀ x, x ∈ W → (x : Int) ≠ d) : ∀ (k x : Nat), W[k]? = some x → Pth to src d k x
  | 0, x, hx => .start (h.at0 x hx).1.1 (hd x (List.mem_of_getElem? hx))
  | k + 1, x, hx => by
    obtain ⟨z, hz⟩ : ∃ z, W[k]? = some z := ⟨_, List.getElem?_eq_getElem (by have := (List.getElem?_eq_some_iff.1 hx).1; omega)⟩
    exact .step (h.path hd k z hz) (h.next k z x hz hx).1.1 (hd x (List.mem_of_getElem? hx))
end
end Go.AM.G


set_option maxRecDepth 100000
namespace Go.AM.G
open Go Go.AM
theorem IndexFunc_spec {m : Mem} {v : V} {l : List Nat} {g : Nat} {caps : List V} {b : Nat → Bool} (hv : SlR m v 1 (nats l)) (hl : l.length < 2 ^ 60) (hc : ∀ x, x ∈ l → C S g (.int .i64 (x : Nat) :: caps) m (fun r m' => r = .bool (b x) ∧ m' = m)) : C S n_slices_IndexFunc_int [v, .fn g [] caps] m (fun r m' => m' = m ∧ ((∃ i x, l[i]? = some x ∧ b x = true ∧ (∀ (j z : Nat), j < i → l[j]? = some z → b z = false) ∧ r = .int .i64 (i : Nat)) ∨ ((∀ x, x ∈ l → b x = false) ∧ r = .int .i64 (-1)))) := by
  refine C_body rfl rfl rfl ?_
  unfold slices_IndexFunc_int
  have hnl : (nats l).length = l.length := by simp
  have hvl := hv.len
  rw [hnl] at hvl
  simp (maxDischargeDepth := 30) only [hvl, amL, args0, Nat.reduceEqDiff, reduceCtorEq, ↓reduceIte, Nat.reduceAdd, resultsA, results1, Int.reduceNeg, splice, Nat.reduceLeDiff, part, fillA, fillE, Nat.reduceLT]
  let fnV : V := .fn g [] caps
  let I := fun (k : Nat) (fr : Frame) (M : Mem) => ∃ i : Nat, i ≤ l.length ∧ k = l.length - i ∧ fr 0 = v ∧ fr 1 = fnV ∧ fr 7 = .int .i64 l.length ∧ fr 8 = .int .i64 (i : Nat) ∧ M = m ∧ ∀ (j z : Nat), j < i → l[j]? = some z → b z = false
  refine W_loop I ?_ l.length ?_
  · rintro k fr M ⟨i, hi, rfl, f0, f1, f7, f8, rfl, hno⟩
    unfold slices_IndexFunc_int_l0
    simp (maxDischargeDepth := 30) only [f0, f1, f7, f8, amL, args0, Nat.reduceEqDiff, reduceCtorEq, ↓reduceIte, Nat.reduceAdd, resultsA, results1, Int.reduceNeg, splice, Nat.reduceLeDiff, part, fillA, fillE, Nat.reduceLT]
    by_cases hil : i < l.length
    · have hil' : (i : Int) < l.length := by omega
      obtain ⟨x, hx⟩ : ∃ x, l[i]? = some x := ⟨_, List.getElem?_eq_getElem hil⟩
      have ix := hv.index (ki := .i64) (n := i) (by omega) (by omega)
      have ld := fun o k => hv.load (o := o) (k := k) (nats_get hx)
      simp only [Int.toNat_natCast] at ix
      have wi : IntKind.i64.wrap ((i : Int) + 1) = ((i + 1 : Nat) : Int) := by rw [wrap_i64] <;> omega
      simp (maxDischargeDepth := 30) only [hil', f0, f1, f7, f8, ix, ld, amL, args0, Nat.reduceEqDiff, reduceCtorEq, ↓reduceIte, Nat.reduceAdd, resultsA, results1, Int.reduceNeg, splice, Nat.reduceLeDiff, part, fillA, fillE, Nat.reduceLT]
      show C S g (.int .i64 (x : Nat) :: caps) M _
      refine (hc x (List.mem_of_getElem? hx)).mono ?_
      rintro _ _ ⟨rfl, rfl⟩
      cases hb : b x with
      | true =>
        simp (maxDischargeDepth := 30) only [aft_mk, amL, args0, Nat.reduceEqDiff, reduceCtorEq, ↓reduceIte, Nat.reduceAdd, resultsA, results1, Int.reduceNeg, splice, Nat.reduceLeDiff, part, fillA, fillE, Nat.reduceLT]
        exact .inl ⟨i, x, hx, hb, hno, rfl⟩
      | false =>
        simp (maxDischargeDepth := 30) only [aft_mk, f0, f1, f7, f8, wi, amL, args0, Nat.reduceEqDiff, reduceCtorEq, ↓reduceIte, Nat.reduceAdd, resultsA, results1, Int.reduceNeg, splice, Nat.reduceLeDiff, part, fillA, fillE, Nat.reduceLT]
        refine ⟨_, ?_, i + 1, by omega, rfl, by simp (maxDischargeDepth := 30) only [f0, amL, args0, Nat.reduceEqDiff, reduceCtorEq, ↓reduceIte, Nat.reduceAdd, resultsA, results1, Int.reduceNeg, splice, Nat.reduceLeDiff, part, fillA, fillE, Nat.reduceLT], by simp (maxDischargeDepth := 30) only [f1, amL, args0, Nat.reduceEqDiff, reduceCtorEq, ↓reduceIte, Nat.reduceAdd, resultsA, results1, Int.reduceNeg, splice, Nat.reduceLeDiff, part, fillA, fillE, Nat.reduceLT], by simp (maxDischargeDepth := 30) only [f7, amL, args0, Nat.reduceEqDiff, reduceCtorEq, ↓reduceIte, Nat.reduceAdd, resultsA, results1, Int.reduceNeg, splice, Nat.reduceLeDiff, part, fillA, fillE, Nat.reduceLT], by simp (maxDischargeDepth := 30) only [amL, args0, Nat.reduceEqDiff, reduceCtorEq, ↓reduceIte, Nat.reduceAdd, resultsA, results1, Int.reduceNeg, splice, Nat.reduceLeDiff, part, fillA, fillE, Nat.reduceLT], rfl, fun j z hj hz => ?_⟩
        · omega
        · by_cases e : j = i
          · rw [e, hx] at hz; cases hz; exact hb
          · exact hno j z (by omega) hz
    · have hil' : ¬ (i : Int) < l.length := by omega
      simp (maxDischargeDepth := 30) only [hil', f0, f1, f7, f8, amL, args0, Nat.reduceEqDiff, reduceCtorEq, ↓reduceIte, Nat.reduceAdd, resultsA, results1, Int.reduceNeg, splice, Nat.reduceLeDiff, part, fillA, fillE, Nat.reduceLT]
      refine .inr fun x hx => ?_
      obtain ⟨j, hj⟩ := List.getElem?_of_mem hx
      exact hno j x (by have := (List.getElem?_eq_some_iff.1 hj).1; omega) hj
  · exact ⟨0, Nat.zero_le _, rfl, by simp (maxDischargeDepth := 30) only [amL, args0, Nat.reduceEqDiff, reduceCtorEq, ↓reduceIte, Nat.reduceAdd, resultsA, results1, Int.reduceNeg, splice, Nat.reduceLeDiff, part, fillA, fillE, Nat.reduceLT], by simp (maxDischargeDepth := 30) only [amL, args0, Nat.reduceEqDiff, reduceCtorEq, ↓reduceIte, Nat.reduceAdd, resultsA, results1, Int.reduceNeg, splice, Nat.reduceLeDiff, part, fillA, fillE, Nat.reduceLT]; rfl, by simp (maxDischargeDepth := 30) only [amL, args0, Nat.reduceEqDiff, reduceCtorEq, ↓reduceIte, Nat.reduceAdd, resultsA, results1, Int.reduceNeg, splice, Nat.reduceLeDiff, part, fillA, fillE, Nat.reduceLT], by simp (maxDischargeDepth := 30) only [amL, args0, Nat.reduceEqDiff, reduceCtorEq, ↓reduceIte, Nat.reduceAdd, resultsA, results1, Int.reduceNeg, splice, Nat.reduceLeDiff, part, fillA, fillE, Nat.reduceLT]; rfl, rfl, fun j z hj => absurd hj (Nat.not_lt_zero _)⟩
theorem ContainsFunc_spec {m : Mem} {v : V} {l : List Nat} {g : Nat} {caps : List V} {b : Nat → Bool} (hv : SlR m v 1 (nats l)) (hl : l.length < 2 ^ 60) (hc : ∀ x, x ∈ l → C S g (.int .i64 (x : Nat) :: caps) m (fun r m' => r = .bool (b x) ∧ m' = m)) : C S n_slices_ContainsFunc_int [v, .fn g [] caps] m (fun r m' => m' = m ∧ ∃ c, r = .bool c ∧ (c = true ↔ ∃ x, x ∈ l ∧ b x = true)) := by
  refine C_body rfl rfl rfl ?_
  unfold slices_ContainsFunc_int
  simp (maxDischargeDepth := 30) only [amL, args0, Nat.reduceEqDiff, reduceCtorEq, ↓reduceIte, Nat.reduceAdd, resultsA, results1, Int.reduceNeg, splice, Nat.reduceLeDiff, part, fillA, fillE, Nat.reduceLT]
  refine (IndexFunc_spec hv hl hc).mono ?_
  rintro _ _ ⟨rfl, ⟨i, x, hx, hb, _, rfl⟩ | ⟨hno, rfl⟩⟩
  · have : (0 : Int) ≤ i := by omega
    simp (maxDischargeDepth := 30) only [aft_mk, this, amL, args0, Nat.reduceEqDiff, reduceCtorEq, ↓reduceIte, Nat.reduceAdd, resultsA, results1, Int.reduceNeg, splice, Nat.reduceLeDiff, part, fillA, fillE, Nat.reduceLT]
    exact ⟨fun _ => ⟨x, List.mem_of_getElem? hx, hb⟩, fun _ => trivial⟩
  · have : ¬ (0 : Int) ≤ -1 := by decide
    simp (maxDischargeDepth := 30) only [aft_mk, this, amL, args0, Nat.reduceEqDiff, reduceCtorEq, ↓reduceIte, Nat.reduceAdd, resultsA, results1, Int.reduceNeg, splice, Nat.reduceLeDiff, part, fillA, fillE, Nat.reduceLT]
    refine ⟨fun h => h.elim, ?_⟩
    rintro ⟨x, hx, h⟩
    rw [hno x hx] at h; cases h
/-- the boxes that the closures see. -/
structure WB (M : Mem) (n : Nat) (P8 P9 : Nat) (far : Nat → Int) (on : Nat → Bool) : Prop where
  f : ∃ fv, M[P8]? = some (.cells true [[fv]]) ∧ Sl M fv 1 (intF n far)
  o : ∃ ov, M[P9]? = some (.cells true [[ov]]) ∧ Sl M ov 1 (boolF n on)
theorem Way1_spec {M : Mem} {n P8 P9 Pd q : Nat} {d : Int} {far : Nat → Int} {on : Nat → Bool} (h : WB M n P8 P9 far on) (hd : M[Pd]? = some (.cells true [[.int .i64 d]])) (hd0 : -1 ≤ d ∧ d < 2 ^ 60) (hq : q < n) : C S n_graph_Way_1 [.int .i64 (q : Nat), .ptr P9 0 0, .ptr P8 0 0, .ptr Pd 0 0] M (fun r m' => r = .bool (on q && decide (far q = d + 1)) ∧ m' = M) := by
  refine C_body rfl rfl rfl ?_
  unfold graph_Way_1
  obtain ⟨⟨fv, hf, hfs⟩, ov, ho, hos⟩ := h
  have lf := fun k => load_at0 (k := k) (j := 0) hf
  have lo := fun k => load_at0 (k := k) (j := 0) ho
  have ldd := fun k => load_at0 (k := k) (j := 0) hd
  have ixf := hfs.index (ki := .i64) (n := q) (by omega) (by rw [intF_len]; omega)
  have ldf := fun o k => hfs.load (o := o) (k := k) (intF_get hq)
  have ixo := hos.index (ki := .i64) (n := q) (by omega) (by rw [boolF_len]; omega)
  have ldo := fun o k => hos.load (o := o) (k := k) (boolF_get hq)
  simp only [Int.toNat_natCast] at ixf ixo
  have w : IntKind.i64.wrap (d + 1) = d + 1 := by rw [wrap_i64] <;> omega
  have r0 : List.replicate 0 Blk.dead = [] := rfl
  cases hon : on q with
  | false =>
    rw [hon] at ldo
    simp (maxDischargeDepth := 30) only [lo, ixo, ldo, r0, List.append_nil, Bool.false_and, amL, args0, Nat.reduceEqDiff, reduceCtorEq, ↓reduceIte, Nat.reduceAdd, resultsA, results1, Int.reduceNeg, splice, Nat.reduceLeDiff, part, fillA, fillE, Nat.reduceLT]
  | true =>
    rw [hon] at ldo
    simp (maxDischargeDepth := 30) only [lo, ixo, ldo, lf, ixf, ldf, ldd, w, r0, List.append_nil, Bool.true_and, amL, args0, Nat.reduceEqDiff, reduceCtorEq, ↓reduceIte, Nat.reduceAdd, resultsA, results1, Int.reduceNeg, splice, Nat.reduceLeDiff, part, fillA, fillE, Nat.reduceLT]
theorem Way2_spec {M : Mem} {n P8 P9 q : Nat} {far : Nat → Int} {on : Nat → Bool} (h : WB M n P8 P9 far on) (hq : q < n) : C S n_graph_Way_2 [.int .i64 (q : Nat), .ptr P9 0 0] M (fun r m' => r = .bool (on q) ∧ m' = M) := by
  refine C_body rfl rfl rfl ?_
  unfold graph_Way_2
  obtain ⟨_, ov, ho, hos⟩ := h
  have lo := fun k => load_at0 (k := k) (j := 0) ho
  have ixo := hos.index (ki := .i64) (n := q) (by omega) (by rw [boolF_len]; omega)
  have ldo := fun o k => hos.load (o := o) (k := k) (boolF_get hq)
  simp only [Int.toNat_natCast] at ixo
  simp (maxDischargeDepth := 30) only [lo, ixo, ldo, amL, args0, Nat.reduceEqDiff, reduceCtorEq, ↓reduceIte, Nat.reduceAdd, resultsA, results1, Int.reduceNeg, splice, Nat.reduceLeDiff, part, fillA, fillE, Nat.reduceLT]
theorem Way3_spec {M : Mem} {n P8 P9 Po q : Nat} {far : Nat → Int} {on : Nat → Bool} {ov : V} {W : List Nat} (h : WB M n P8 P9 far on) (ho : M[Po]? = some (.cells true [[ov]])) (hW : Sl M ov 1 (nats W)) (hq : q < n) : C S n_graph_Way_3 [.int .i64 (q : Nat), .ptr P9 0 0, .ptr P8 0 0, .ptr Po 0 0] M (fun r m' => r = .bool (on q && decide (far q = (W.length : Int))) ∧ m' = M) := by
  refine C_body rfl rfl rfl ?_
  unfold graph_Way_3
  obtain ⟨⟨fv, hf, hfs⟩, ov', ho', hos⟩ := h
  have lf := fun k => load_at0 (k := k) (j := 0) hf
  have lo := fun k => load_at0 (k := k) (j := 0) ho'
  have ldd := fun k => load_at0 (k := k) (j := 0) ho
  have ixf := hfs.index (ki := .i64) (n := q) (by omega) (by rw [intF_len]; omega)
  have ldf := fun o k => hfs.load (o := o) (k := k) (intF_get hq)
  have ixo := hos.index (ki := .i64) (n := q) (by omega) (by rw [boolF_len]; omega)
  have ldo := fun o k => hos.load (o := o) (k := k) (boolF_get hq)
  simp only [Int.toNat_natCast] at ixf ixo
  have hwl := hW.len
  have hnl : (nats W).length = W.length := by simp
  rw [hnl] at hwl
  have r0 : List.replicate 0 Blk.dead = [] := rfl
  cases hon : on q with
  | false =>
    rw [hon] at ldo
    simp (maxDischargeDepth := 30) only [lo, ixo, ldo, r0, List.append_nil, Bool.false_and, amL, args0, Nat.reduceEqDiff, reduceCtorEq, ↓reduceIte, Nat.reduceAdd, resultsA, results1, Int.reduceNeg, splice, Nat.reduceLeDiff, part, fillA, fillE, Nat.reduceLT]
  | true =>
    rw [hon] at ldo
    simp (maxDischargeDepth := 30) only [lo, ixo, ldo, lf, ixf, ldf, ldd, hwl, r0, List.append_nil, Bool.true_and, amL, args0, Nat.reduceEqDiff, reduceCtorEq, ↓reduceIte, Nat.reduceAdd, resultsA, results1, Int.reduceNeg, splice, Nat.reduceLeDiff, part, fillA, fillE, Nat.reduceLT]
end Go.AM.G
