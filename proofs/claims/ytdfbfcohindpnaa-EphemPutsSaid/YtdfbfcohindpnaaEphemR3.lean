/- Part of the proof: contracts of functions of the given program on an abstract machine. -/
import Derived.Test.YtdfbfcohindpnaaEphemR2
set_option linter.unusedVariables false
set_option linter.unusedSimpArgs false
set_option maxRecDepth 100000
namespace Go.AM.G
open Go Go.AM
def K3 (l : List Slot) : Prop := ∀ s ∈ l, s.st = 0 ∨ s.st = 1 ∨ s.st = 2
theorem K3.sl {l : List Slot} (h : K3 l) {a d : Nat} (hn : 0 < l.length) : (sl l a d).st = 0 ∨ (sl l a d).st = 1 ∨ (sl l a d).st = 2 := h _ (List.mem_of_getElem? (sl_get hn))
/-- the first slot that is not used, from a key's home on. -/
def First (l : List Slot) (h p : Nat) : Prop := p < l.length ∧ (∀ e, e < p → (sl l h e).st = 1) ∧ (sl l h p).st ≠ 1
theorem findF_first {l : List Slot} {k : Int} {h : Nat} (hn : 0 < l.length) (h3 : K3 l) : ∀ {f a : Nat} {g : Option Nat}, a + f = l.length → Q l k h a → (g = none → ∀ e, e < a → (sl l h e).st = 1) → (∀ y, g = some y → ∃ p, p < a ∧ y = (h + p) % l.length ∧ (∀ e, e < p → (sl l h e).st = 1) ∧ (sl l h p).st ≠ 1) →
    (findF l k f ((h + a) % l.length) g).2 = false → Q l k h l.length ∨ ∃ p, (findF l k f ((h + a) % l.length) g).1 = (h + p) % l.length ∧ First l h p
  | 0, a, g, ha, hq, h1, h2 => by
    intro _
    refine .inl ?_
    rw [← ha]
    exact hq
  | f + 1, a, g, ha, hq, h1, h2 => by
    have hs := sl_get (h := h) (d := a) hn
    simp only [findF, hs]
    by_cases h0 : (sl l h a).st = 0
    · rw [if_pos h0]
      intro _
      refine .inr ?_
      cases g with
      | none => exact ⟨a, rfl, by omega, h1 rfl, by omega⟩
      | some y =>
        obtain ⟨p, p1, p2, p3, p4⟩ := h2 y rfl
        exact ⟨p, p2, by omega, p3, p4⟩
    rw [if_neg h0]
    by_cases hk : (sl l h a).st = 1 ∧ (sl l h a).key = k
    · rw [if_pos hk]
      intro h; simp at h
    rw [if_neg hk]
    have e : ((h + a) % l.length + 1) % l.length = (h + (a + 1)) % l.length := by rw [Nat.mod_add_mod]; rfl
    rw [e]
    refine findF_first hn h3 (by omega) ?_ ?_ ?_
    · intro x hx
      by_cases hxa : x = a
      · subst hxa; exact ⟨h0, hk⟩
      · exact hq x (by omega)
    · intro hg
      split at hg
      · cases hg
      · rename_i hc
        intro x hx
        by_cases hxa : x = a
        · subst hxa
          rcases h3.sl (a := h) (d := x) hn with h | h | h
          · exact absurd h h0
          · exact h
          · exact absurd ⟨h, hg⟩ hc
        · exact h1 hg x (by omega)
    · intro y hy
      split at hy
      · rename_i hc
        cases hy
        exact ⟨a, by omega, rfl, h1 hc.2, by omega⟩
      · obtain ⟨p, p1, p2⟩ := h2 y hy
        exact ⟨p, by omega, p2⟩
theorem find_first {l : List Slot} {k : Int} (hp : Pow l.length) (h0 : 0 < cnt 0 l) (h3 : K3 l) (h : (findL l k).2 = false) : ∃ p, (findL l k).1 = (hk l k + p) % l.length ∧ First l (hk l k) p := by
  have hle := hp.le
  rw [findL_eq hp] at h ⊢
  exact (findF_first (by omega) h3 (by omega) (fun e he => absurd he (Nat.not_lt_zero _)) (fun _ e he => absurd he (Nat.not_lt_zero _)) (by simp) h).resolve_left (no_free (hk_lt hp) h0)
theorem K3.set {l : List Slot} (h : K3 l) {i : Nat} {x : Slot} (hx : x.st = 0 ∨ x.st = 1 ∨ x.st = 2) : K3 (l.set i x) := by
  intro s hs
  rcases List.mem_or_eq_of_mem_set hs with h1 | rfl
  · exact h s h1
  · exact hx
theorem K3.lay {l : List Slot} (h : K3 l) {k v : Int} : K3 (layL l k v) := h.set (.inr (.inl rfl))
theorem K3_valid {l : List Slot} (h : validB l = true) (h0 : ∀ s ∈ l, 0 ≤ s.st) : K3 l := by
  intro s hs
  obtain ⟨j, hj⟩ := List.getElem?_of_mem hs
  have h1 := h0 s hs
  rcases valid_iff.1 h with h2 | ⟨h2, _⟩
  · have := (List.getElem?_eq_some_iff.1 hj).1; omega
  · have := h2.ok j s hj
    simp only [okS, Bool.and_eq_true, decide_eq_true_eq] at this
    omega
theorem refLay_spec {m : Mem} {b cap : Nat} {ex : Bool} {l : List Slot} (key val : Int) {p : Nat} (hb : m[b]? = some (.cells true (encs l))) (hpow : Pow l.length) (hp : First l (hk l key) p) :
    C S n_ref10_lay [.agg [.slice b 0 l.length cap ex 3], .int .u64 key, .int .u64 val] m (fun r m' => r = .agg [.slice b 0 l.length cap ex 3] ∧ Grow (m.set b (.cells true (encs (l.set ((hk l key + p) % l.length) ⟨1, key, val⟩)))) m') := by
  have hlen : (encs l).length = l.length := by simp
  have hv : Sl m (.slice b 0 l.length cap ex 3) 3 (encs l) := by rw [← hlen]; exact Sl.mk hb
  have hple := hpow.le
  have hbl := (List.getElem?_eq_some_iff.1 hb).1
  refine C_body rfl rfl rfl ?_
  unfold ref10_lay
  simp (maxDischargeDepth := 30) only [amL, args0, Nat.reduceEqDiff, reduceCtorEq, ↓reduceIte, Nat.reduceAdd, resultsA, results1, Int.reduceNeg, splice, Nat.reduceLeDiff, part, fillA, fillE, Nat.reduceLT]
  refine (refHome_spec key l.length).mono ?_
  rintro _ _ ⟨rfl, rfl⟩
  have hhk := hk_lt (k := key) hpow
  have hhome : homeI key l.length = ((hk l key : Nat) : Int) := by
    have := (home_range (key := key) hpow).1
    unfold hk
    omega
  have c14 : ¬ (l.length : Int) = 0 := by omega
  simp (maxDischargeDepth := 30) only [aft_mk, hpow, hhome, amL, args0, Nat.reduceEqDiff, reduceCtorEq, ↓reduceIte, Nat.reduceAdd, resultsA, results1, Int.reduceNeg, splice, Nat.reduceLeDiff, part, fillA, fillE, Nat.reduceLT]
  generalize hM : m ++ [Blk.cells true [[V.slice b 0 l.length cap ex 3]]] ++ [Blk.cells true [[V.nils]]] = M0
  have hT : M0[m.length]? = some (.cells true [[V.slice b 0 l.length cap ex 3]]) := by rw [← hM]; exact getElem?_grow (by simp)
  have hR : M0[m.length + 1]? = some (.cells true [[V.nils]]) := by
    rw [← hM, List.getElem?_append_right (by simp)]; simp
  have hb0 : M0[b]? = some (.cells true (encs l)) := by rw [← hM]; exact getElem?_grow (getElem?_grow hb)
  have hv0 : Sl M0 (.slice b 0 l.length cap ex 3) 3 (encs l) := by rw [← hM]; exact hv.app.app
  have hRl : (m ++ [Blk.cells true [[V.slice b 0 l.length cap ex 3]]]).length = m.length + 1 := by simp
  let J := fun (k : Nat) (fr : Frame) (M : Mem) => ∃ d : Nat, d ≤ p ∧ k = p - d ∧ fr 1 = .int .u64 key ∧ fr 2 = .int .u64 val ∧ fr 3 = .ptr m.length 0 0 ∧ fr 6 = .ptr (m.length + 1) 0 0 ∧ fr 7 = .int .i64 l.length ∧ fr 8 = .int .i64 ((hk l key + d) % l.length : Nat) ∧ M = M0
  refine W_loop J ?_ p ?_
  · rintro k fr M ⟨d, hd, rfl, f1, f2, f3, f6, f7, f8, rfl⟩
    unfold ref10_lay_l0
    have hml : (hk l key + d) % l.length < l.length := Nat.mod_lt _ (by omega)
    have hgd := sl_get (l := l) (h := hk l key) (d := d) (by omega)
    have ix := hv0.index (ki := .i64) (n := (((hk l key + d) % l.length : Nat) : Int)) (by omega) (by omega)
    have ld := fun o k => hv0.load (o := o) (k := k) (encs_get hgd)
    simp only [Int.toNat_natCast, enc] at ix ld
    by_cases hdp : d = p
    · subst hdp
      have hst := hp.2.2
      have st := store_own (n := 3) (len := l.length) (cap := cap) (z := 3) (ex := ex) (x := .agg [.int .u8 1, .int .u64 key, .int .u64 val]) hb0 (encs_get hgd) rfl rfl rfl
      have e : (encs l).set ((hk l key + d) % l.length) [.int .u8 1, .int .u64 key, .int .u64 val] = encs (l.set ((hk l key + d) % l.length) ⟨1, key, val⟩) := by simp [List.map_set, enc]
      simp only [cells_agg, e] at st
      have hne := enc_ne hT hb0
      have hneR := enc_ne hR hb0
      have hT1 : (M.set b (.cells true (encs (l.set ((hk l key + d) % l.length) ⟨1, key, val⟩))))[m.length]? = some (.cells true [[V.slice b 0 l.length cap ex 3]]) := by rw [List.getElem?_set_ne hne]; exact hT
      have hR1 : (M.set b (.cells true (encs (l.set ((hk l key + d) % l.length) ⟨1, key, val⟩))))[m.length + 1]? = some (.cells true [[V.nils]]) := by rw [List.getElem?_set_ne hneR]; exact hR
      have s1 := store_at0 (x := .agg [V.slice b 0 l.length cap ex 3]) (j := 0) (n := 1) hR1 rfl (by simp) rfl
      have hRl1 := (List.getElem?_eq_some_iff.1 hR1).1
      have l2 := fun k => load_set0 (M := M.set b (.cells true (encs (l.set ((hk l key + d) % l.length) ⟨1, key, val⟩)))) (b := m.length + 1) (own := true) (el := [V.slice b 0 l.length cap ex 3]) (k := k) (j := 0) hRl1
      simp only [cells_agg, splice, List.take_zero, List.nil_append, List.cons_append, List.length_cons, List.length_nil, Nat.zero_add, List.drop_succ_cons, List.drop_nil] at s1
      simp (maxDischargeDepth := 30) only [f1, f2, f3, f6, f7, f8, load_at0 hT, ix, ld, hst, st, load_at0 hT1, s1, l2, amL, args0, Nat.reduceEqDiff, reduceCtorEq, ↓reduceIte, Nat.reduceAdd, resultsA, results1, Int.reduceNeg, splice, Nat.reduceLeDiff, part, fillA, fillE, Nat.reduceLT]
      have hgr : Grow (m.set b (.cells true (encs (l.set ((hk l key + d) % l.length) ⟨1, key, val⟩)))) (M.set b (.cells true (encs (l.set ((hk l key + d) % l.length) ⟨1, key, val⟩)))) := by
        rw [← hM, List.set_append_left _ _ (by simp; omega), List.set_append_left _ _ hbl]
        exact (Grow.refl _).app.app
      exact hgr.set (by simp) _
    · have hst := hp.2.1 d (by omega)
      have w5 : IntKind.i64.wrap ((((hk l key + d) % l.length : Nat) : Int) + 1) = (((hk l key + d) % l.length + 1 : Nat) : Int) := by rw [wrap_i64] <;> omega
      have w6 : (((hk l key + d) % l.length + 1 : Nat) : Int).tmod l.length = (((hk l key + (d + 1)) % l.length : Nat) : Int) := by
        rw [Int.tmod_eq_emod_of_nonneg (by omega), ← Int.natCast_emod, Nat.mod_add_mod]
        rfl
      simp (maxDischargeDepth := 30) only [f1, f2, f3, f6, f7, f8, load_at0 hT, ix, ld, hst, c14, w5, w6, amL, args0, Nat.reduceEqDiff, reduceCtorEq, ↓reduceIte, Nat.reduceAdd, resultsA, results1, Int.reduceNeg, splice, Nat.reduceLeDiff, part, fillA, fillE, Nat.reduceLT]
      refine ⟨_, ?_, d + 1, by omega, rfl, ?_, ?_, ?_, ?_, ?_, ?_, rfl⟩
      · omega
      all_goals simp (maxDischargeDepth := 30) only [f1, f2, f3, f6, f7, amL, args0, Nat.reduceEqDiff, reduceCtorEq, ↓reduceIte, Nat.reduceAdd, resultsA, results1, Int.reduceNeg, splice, Nat.reduceLeDiff, part, fillA, fillE, Nat.reduceLT]
  · refine ⟨0, Nat.zero_le _, rfl, by simp (maxDischargeDepth := 30) only [amL, args0, Nat.reduceEqDiff, reduceCtorEq, ↓reduceIte, Nat.reduceAdd, resultsA, results1, Int.reduceNeg, splice, Nat.reduceLeDiff, part, fillA, fillE, Nat.reduceLT], by simp (maxDischargeDepth := 30) only [amL, args0, Nat.reduceEqDiff, reduceCtorEq, ↓reduceIte, Nat.reduceAdd, resultsA, results1, Int.reduceNeg, splice, Nat.reduceLeDiff, part, fillA, fillE, Nat.reduceLT], by simp (maxDischargeDepth := 30) only [amL, args0, Nat.reduceEqDiff, reduceCtorEq, ↓reduceIte, Nat.reduceAdd, resultsA, results1, Int.reduceNeg, splice, Nat.reduceLeDiff, part, fillA, fillE, Nat.reduceLT], by simp (maxDischargeDepth := 30) only [hRl, amL, args0, Nat.reduceEqDiff, reduceCtorEq, ↓reduceIte, Nat.reduceAdd, resultsA, results1, Int.reduceNeg, splice, Nat.reduceLeDiff, part, fillA, fillE, Nat.reduceLT], by simp (maxDischargeDepth := 30) only [amL, args0, Nat.reduceEqDiff, reduceCtorEq, ↓reduceIte, Nat.reduceAdd, resultsA, results1, Int.reduceNeg, splice, Nat.reduceLeDiff, part, fillA, fillE, Nat.reduceLT], ?_, rfl⟩
    simp (maxDischargeDepth := 30) only [amL, args0, Nat.reduceEqDiff, reduceCtorEq, ↓reduceIte, Nat.reduceAdd, resultsA, results1, Int.reduceNeg, splice, Nat.reduceLeDiff, part, fillA, fillE, Nat.reduceLT]
    rw [Nat.mod_eq_of_lt hhk]
end Go.AM.G
