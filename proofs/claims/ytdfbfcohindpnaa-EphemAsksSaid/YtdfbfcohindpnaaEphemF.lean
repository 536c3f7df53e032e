/- Part of the proof: contracts of functions of the given program on an abstract machine. -/
import Derived.Test.YtdfbfcohindpnaaEphemE
set_option linter.unusedVariables false
set_option linter.unusedSimpArgs false
set_option maxRecDepth 100000
namespace Go.AM.G
open Go Go.AM
def layL (l : List Slot) (key val : Int) : List Slot := l.set (findL l key).1 ⟨1, key, val⟩
theorem lay_spec {m : Mem} {p : V} {b cap : Nat} {ex : Bool} {l : List Slot} (key val : Int) (hp : loadV m none p = some (.slice b 0 l.length cap ex 3)) (hpp : asPtr 0 p = some p) (hb : m[b]? = some (.cells true (encs l))) (hpow : Pow l.length) (hf : 0 < cnt 0 l) :
    C S n_ephem_table_lay [p, .int .u64 key, .int .u64 val] m (fun _ m' => Grow (m.set b (.cells true (encs (layL l key val)))) m') := by
  have hlen : (encs l).length = l.length := by simp
  have hv : Sl m (.slice b 0 l.length cap ex 3) 3 (encs l) := by rw [← hlen]; exact Sl.mk hb
  refine C_body rfl rfl rfl ?_
  unfold ephem_table_lay
  simp (maxDischargeDepth := 30) only [amL, args0, Nat.reduceEqDiff, reduceCtorEq, ↓reduceIte, Nat.reduceAdd, resultsA, results1, Int.reduceNeg, splice, Nat.reduceLeDiff, part, fillA, fillE, Nat.reduceLT]
  refine (find_spec key hp hpp hv (.inr ⟨hpow, hf⟩)).mono ?_
  rintro _ _ ⟨rfl, g, rfl⟩
  obtain ⟨hi, _⟩ := findL_spec (key := key) hpow
  obtain ⟨s, hs⟩ : ∃ s, l[(findL l key).1]? = some s := ⟨_, List.getElem?_eq_getElem hi⟩
  have ix := hv.index (ki := .i64) (n := (findL l key).1) (by omega) (by omega)
  have st := store_own (n := 3) (len := l.length) (cap := cap) (z := 3) (ex := ex) (x := .agg [.int .u8 1, .int .u64 key, .int .u64 val]) hb (encs_get hs) rfl rfl rfl
  have e : (encs l).set (findL l key).1 [.int .u8 1, .int .u64 key, .int .u64 val] = encs (layL l key val) := by simp [layL, List.map_set, enc]
  simp only [Int.toNat_natCast, cells_agg, e] at ix st
  simp (maxDischargeDepth := 30) only [aft_mk, hp, hpp, ix, st, amL, args0, Nat.reduceEqDiff, reduceCtorEq, ↓reduceIte, Nat.reduceAdd, resultsA, results1, Int.reduceNeg, splice, Nat.reduceLeDiff, part, fillA, fillE, Nat.reduceLT]
  exact (Grow.refl _).app
/-- the least room for so many and one more. -/
def sizeL (used : Nat) : Nat := if 2 * (used + 1) ≤ 8 then 8 else if 2 * (used + 1) ≤ 16 then 16 else if 2 * (used + 1) ≤ 32 then 32 else if 2 * (used + 1) ≤ 64 then 64 else 128
def zeroS : Slot := ⟨0, 0, 0⟩
def anewL (l : List Slot) : List Slot := l.foldl (fun t s => if s.st = 1 then layL t s.key s.val else t) (List.replicate (sizeL (cnt 1 l)) zeroS)
theorem layL_length {l : List Slot} {key val : Int} : (layL l key val).length = l.length := by simp [layL]
theorem cnt_set {l : List Slot} {i : Nat} {s : Slot} {st : Int} : cnt st l ≤ cnt st (l.set i s) + 1 := by
  induction l generalizing i with
  | nil => simp [cnt]
  | cons a l ih =>
    cases i with
    | zero => simp only [List.set_cons_zero, cnt, List.countP_cons]; split <;> split <;> omega
    | succ i =>
      have := ih (i := i)
      simp only [List.set_cons_succ, cnt, List.countP_cons] at this ⊢
      omega
theorem sizeL_cases (u : Nat) : (sizeL u = 8 ∧ 2 * (u + 1) ≤ 8) ∨ (sizeL u = 16 ∧ 8 < 2 * (u + 1) ∧ 2 * (u + 1) ≤ 16) ∨ (sizeL u = 32 ∧ 16 < 2 * (u + 1) ∧ 2 * (u + 1) ≤ 32) ∨ (sizeL u = 64 ∧ 32 < 2 * (u + 1) ∧ 2 * (u + 1) ≤ 64) ∨ (sizeL u = 128 ∧ 64 < 2 * (u + 1)) := by
  unfold sizeL
  split
  · omega
  split
  · omega
  split
  · omega
  split <;> omega
theorem encs_z {l : List Slot} : ∀ el ∈ encs l, el.length = 3 := by
  intro el h
  obtain ⟨s, _, rfl⟩ := List.mem_map.1 h
  rfl
theorem anew_spec {m : Mem} {bt : Nat} {v : V} {l : List Slot} (hbt : m[bt]? = some (.cells true [[v]])) (hv : Sl m v 3 (encs l)) (hn : l.length ≤ 64) (hu63 : cnt 1 l ≤ 63) :
    C S n_ephem_table_anew [.ptr bt 0 0] m (fun r m' => r = .bool (decide (sizeL (cnt 1 l) ≤ 64)) ∧ if sizeL (cnt 1 l) ≤ 64 then ∃ b cap ex, m.length ≤ b ∧ Grow (m.set bt (.cells true [[.slice b 0 (anewL l).length cap ex 3]])) m' ∧ m'[b]? = some (.cells true (encs (anewL l))) else Grow m m') := by
  have hlen : (encs l).length = l.length := by simp
  have hbl := (List.getElem?_eq_some_iff.1 hbt).1
  have hp0 : loadV m none (.ptr bt 0 0) = some v := by simp [loadV, hbt, part]
  refine C_body rfl rfl rfl ?_
  unfold ephem_table_anew
  simp (maxDischargeDepth := 30) only [amL, args0, Nat.reduceEqDiff, reduceCtorEq, ↓reduceIte, Nat.reduceAdd, resultsA, results1, Int.reduceNeg, splice, Nat.reduceLeDiff, part, fillA, fillE, Nat.reduceLT]
  refine (many_spec 1 hp0 rfl hv (by omega)).mono ?_
  rintro _ _ ⟨rfl, g, rfl⟩
  have hcl := cnt_le 1 l
  have hsc := sizeL_cases (cnt 1 l)
  generalize hu : cnt 1 l = used at *
  have w1 : IntKind.i64.wrap ((used : Int) + 1) = ((used + 1 : Nat) : Int) := by rw [wrap_i64] <;> omega
  simp (maxDischargeDepth := 30) only [aft_mk, w1, amL, args0, Nat.reduceEqDiff, reduceCtorEq, ↓reduceIte, Nat.reduceAdd, resultsA, results1, Int.reduceNeg, splice, Nat.reduceLeDiff, part, fillA, fillE, Nat.reduceLT]
  have w2 : IntKind.i64.wrap (2 * ((used + 1 : Nat) : Int)) = ((2 * (used + 1) : Nat) : Int) := by rw [wrap_i64] <;> omega
  let I := fun (n : Nat) (fr : Frame) (M : Mem) => ∃ s : Nat, (s = 8 ∨ s = 16 ∨ s = 32 ∨ s = 64 ∨ s = 128) ∧ n = 128 - s ∧ s ≤ sizeL used ∧ fr 0 = .ptr bt 0 0 ∧ fr 3 = .int .i64 s ∧ fr 4 = .int .i64 (used + 1 : Nat) ∧ M = m ++ g
  refine W_loop I ?_ 120 ?_
  · rintro n fr M ⟨s, hs, rfl, hsz, f0, f3, f4, rfl⟩
    unfold ephem_table_anew_l0
    simp (maxDischargeDepth := 30) only [f0, f3, f4, w2, amL, args0, Nat.reduceEqDiff, reduceCtorEq, ↓reduceIte, Nat.reduceAdd, resultsA, results1, Int.reduceNeg, splice, Nat.reduceLeDiff, part, fillA, fillE, Nat.reduceLT]
    first | (refine O_split (by simp only [put_apply, Nat.reduceEqDiff, ↓reduceIte, reduceCtorEq]; rfl) (fun h => ?_) (fun h => ?_) <;> simp only [decide_eq_true_eq, decide_eq_false_iff_not, Decidable.not_not, Bool.and_eq_true, Bool.not_eq_true', Bool.not_eq_false'] at h) | (refine W_split (by simp only [get_t, put_apply, Nat.reduceEqDiff, ↓reduceIte, reduceCtorEq]; rfl) (fun h => ?_) (fun h => ?_) <;> simp only [decide_eq_true_eq, decide_eq_false_iff_not, Decidable.not_not, Bool.and_eq_true, Bool.not_eq_true', Bool.not_eq_false'] at h)
    · have w3 : IntKind.i64.wrap ((s : Int) * 2) = ((s * 2 : Nat) : Int) := by rw [wrap_i64] <;> omega
      simp (maxDischargeDepth := 30) only [h, f0, f3, f4, w2, w3, amL, args0, Nat.reduceEqDiff, reduceCtorEq, ↓reduceIte, Nat.reduceAdd, resultsA, results1, Int.reduceNeg, splice, Nat.reduceLeDiff, part, fillA, fillE, Nat.reduceLT]
      refine ⟨128 - s * 2, ?_, s * 2, ?_, rfl, ?_, ?_, ?_, ?_, rfl⟩
      · omega
      · omega
      · omega
      all_goals simp (maxDischargeDepth := 30) only [f0, f3, f4, amL, args0, Nat.reduceEqDiff, reduceCtorEq, ↓reduceIte, Nat.reduceAdd, resultsA, results1, Int.reduceNeg, splice, Nat.reduceLeDiff, part, fillA, fillE, Nat.reduceLT]
    · have hss : sizeL used = s := by omega
      rw [hss]
      simp (maxDischargeDepth := 30) only [h, f0, f3, f4, w2, amL, args0, Nat.reduceEqDiff, reduceCtorEq, ↓reduceIte, Nat.reduceAdd, resultsA, results1, Int.reduceNeg, splice, Nat.reduceLeDiff, part, fillA, fillE, Nat.reduceLT]
      first | (refine O_split (by simp only [put_apply, Nat.reduceEqDiff, ↓reduceIte, reduceCtorEq]; rfl) (fun h2 => ?_) (fun h2 => ?_) <;> simp only [decide_eq_true_eq, decide_eq_false_iff_not, Decidable.not_not, Bool.and_eq_true, Bool.not_eq_true', Bool.not_eq_false'] at h2) | (refine W_split (by simp only [get_t, put_apply, Nat.reduceEqDiff, ↓reduceIte, reduceCtorEq]; rfl) (fun h2 => ?_) (fun h2 => ?_) <;> simp only [decide_eq_true_eq, decide_eq_false_iff_not, Decidable.not_not, Bool.and_eq_true, Bool.not_eq_true', Bool.not_eq_false'] at h2)
      · have : ¬ s ≤ 64 := by omega
        simp (maxDischargeDepth := 30) only [this, amL, args0, Nat.reduceEqDiff, reduceCtorEq, ↓reduceIte, Nat.reduceAdd, resultsA, results1, Int.reduceNeg, splice, Nat.reduceLeDiff, part, fillA, fillE, Nat.reduceLT]
        exact (Grow.refl _).app
      have h64 : s ≤ 64 := by omega
      have hbt' : (m ++ g)[bt]? = some (.cells true [[v]]) := getElem?_grow hbt
      have hp1 : loadV (m ++ g) none (.ptr bt 0 0) = some v := loadV_some hp0
      have rm : 0 ≤ (s : Int) ∧ (s : Int) ≤ s ∧ roomy (s : Int).toNat 24 = true := by simp [roomy]; omega
      simp (maxDischargeDepth := 30) only [h, f0, f3, f4, hp0, hp1, rm, amL, args0, Nat.reduceEqDiff, reduceCtorEq, ↓reduceIte, Nat.reduceAdd, resultsA, results1, Int.reduceNeg, splice, Nat.reduceLeDiff, part, fillA, fillE, Nat.reduceLT]
      have st1 : ∀ x : V, x.isCell = true → storeV m 1 (.ptr bt 0 0) x = some (m.set bt (.cells true [[x]])) := fun x hx => by
        simp [storeV, hbt, cells_cell hx, hx, splice]
      have rm' : roomy s 24 = true := by simpa using rm.2.2
      have hll : (encs l).length = l.length := hlen
      simp (maxDischargeDepth := 30) only [st1, Int.toNat_natCast, rm', hv.len, hll, amL, args0, Nat.reduceEqDiff, reduceCtorEq, ↓reduceIte, Nat.reduceAdd, resultsA, results1, Int.reduceNeg, splice, Nat.reduceLeDiff, part, fillA, fillE, Nat.reduceLT]
      generalize hB : List.length (m ++ g) = B
      have hBm : m.length ≤ B := by rw [← hB]; simp
      have hm1 : (m.set bt (.cells true [[V.slice B 0 s s true 3]])).length = m.length := by simp
      have hvv : Sl (m.set bt (.cells true [[V.slice B 0 s s true 3]])) v 3 (encs l) := hv.set_other encs_z hbt (by simp) rfl
      have hbt1 : (m.set bt (.cells true [[V.slice B 0 s s true 3]]))[bt]? = some (.cells true [[V.slice B 0 s s true 3]]) := List.getElem?_set_self hbl
      generalize hM1 : m.set bt (.cells true [[V.slice B 0 s s true 3]]) = M1 at hm1 hvv hbt1
      have hzz : List.replicate s [V.int .u8 0, V.int .u64 0, V.int .u64 0] = encs (List.replicate s zeroS) := by simp [enc, zeroS]
      rw [hzz]
      have hfin : (anewL l) = l.foldl (fun t s => if s.st = 1 then layL t s.key s.val else t) (List.replicate s zeroS) := by simp [anewL, hu, hss]
      have hps : Pow s := by unfold Pow; omega
      let T := fun (i : Nat) => (l.take i).foldl (fun t s => if s.st = 1 then layL t s.key s.val else t) (List.replicate s zeroS)
      have hT0 : T 0 = List.replicate s zeroS := rfl
      have hTs : ∀ i x, l[i]? = some x → T (i + 1) = if x.st = 1 then layL (T i) x.key x.val else T i := by
        intro i x hx
        obtain ⟨a1, e1⟩ := List.getElem?_eq_some_iff.1 hx
        simp only [T]
        rw [List.take_succ_eq_append_getElem a1, e1, List.foldl_append]
        rfl
      have hTl : T l.length = anewL l := by simp only [T, hfin, List.take_length]
      have hTlen : ∀ i, i ≤ l.length → (T i).length = s ∧ s ≤ cnt 0 (T i) + cnt 1 (l.take i) := by
        intro i
        induction i with
        | zero => intro _; rw [hT0]; simp [cnt, zeroS, List.countP_replicate]
        | succ i ih =>
          intro hi
          obtain ⟨x, hx⟩ : ∃ x, l[i]? = some x := ⟨_, List.getElem?_eq_getElem (by omega)⟩
          obtain ⟨a, b⟩ := ih (by omega)
          rw [hTs i x hx, cnt_succ hx]
          split
          · refine ⟨by rw [layL_length]; exact a, ?_⟩
            have := cnt_set (l := T i) (i := (findL (T i) x.key).1) (s := ⟨1, x.key, x.val⟩) (st := 0)
            unfold layL
            omega
          · exact ⟨a, by omega⟩
      let J := fun (n : Nat) (fr : Frame) (M : Mem) => ∃ i : Nat, i ≤ l.length ∧ n = l.length - i ∧ fr 0 = .ptr bt 0 0 ∧ fr 30 = v ∧ fr 31 = .int .i64 l.length ∧ fr 32 = .int .i64 i ∧ Grow M1 M ∧ M[B]? = some (.cells true (encs (T i)))
      refine W_loop J ?_ l.length ?_
      · rintro n fr M ⟨i, hi, rfl, f0, f30, f31, f32, hg, hMB⟩
        unfold ephem_table_anew_l1
        simp (maxDischargeDepth := 30) only [f0, f30, f31, f32, amL, args0, Nat.reduceEqDiff, reduceCtorEq, ↓reduceIte, Nat.reduceAdd, resultsA, results1, Int.reduceNeg, splice, Nat.reduceLeDiff, part, fillA, fillE, Nat.reduceLT]
        first | (refine O_split (by simp only [put_apply, Nat.reduceEqDiff, ↓reduceIte, reduceCtorEq]; rfl) (fun h => ?_) (fun h => ?_) <;> simp only [decide_eq_true_eq, decide_eq_false_iff_not, Decidable.not_not, Bool.and_eq_true, Bool.not_eq_true', Bool.not_eq_false'] at h) | (refine W_split (by simp only [get_t, put_apply, Nat.reduceEqDiff, ↓reduceIte, reduceCtorEq]; rfl) (fun h => ?_) (fun h => ?_) <;> simp only [decide_eq_true_eq, decide_eq_false_iff_not, Decidable.not_not, Bool.and_eq_true, Bool.not_eq_true', Bool.not_eq_false'] at h)
        · have hil : i < l.length := by omega
          obtain ⟨x, hx⟩ : ∃ x, l[i]? = some x := ⟨_, List.getElem?_eq_getElem hil⟩
          have hsl := hvv.grow hg
          have ix := hsl.index (ki := .i64) (n := i) (by omega) (by omega)
          have ld := fun o k => hsl.load (o := o) (k := k) (encs_get hx)
          simp only [Int.toNat_natCast, enc] at ix ld
          have w3 : IntKind.i64.wrap ((i : Int) + 1) = ((i + 1 : Nat) : Int) := by rw [wrap_i64] <;> omega
          obtain ⟨tl, tc⟩ := hTlen i hi
          have hfree : 0 < cnt 0 (T i) := by
            have : cnt 1 (l.take i) ≤ cnt 1 l := List.Sublist.countP_le (List.take_sublist i l)
            omega
          by_cases c1 : x.st = 1
          · simp (maxDischargeDepth := 30) only [h, f0, f30, f31, f32, ix, ld, c1, amL, args0, Nat.reduceEqDiff, reduceCtorEq, ↓reduceIte, Nat.reduceAdd, resultsA, results1, Int.reduceNeg, splice, Nat.reduceLeDiff, part, fillA, fillE, Nat.reduceLT]
            have hpl : loadV M none (.ptr bt 0 0) = some (.slice B 0 (T i).length s true 3) := by
              rw [tl]
              simp [loadV, hg.get hbt1, part]
            refine (lay_spec x.key x.val (loadV_some hpl) rfl (getElem?_grow hMB) (by rw [tl]; exact hps) hfree).mono ?_
            rintro _ M' ⟨g', rfl⟩
            have hBl : B < M.length := (List.getElem?_eq_some_iff.1 hMB).1
            simp (maxDischargeDepth := 30) only [aft_mk, f0, f30, f31, f32, w3, amL, args0, Nat.reduceEqDiff, reduceCtorEq, ↓reduceIte, Nat.reduceAdd, resultsA, results1, Int.reduceNeg, splice, Nat.reduceLeDiff, part, fillA, fillE, Nat.reduceLT]
            refine ⟨_, ?_, i + 1, by omega, rfl, ?_, ?_, ?_, ?_, ?_, ?_⟩
            · omega
            · simp (maxDischargeDepth := 30) only [f0, amL, args0, Nat.reduceEqDiff, reduceCtorEq, ↓reduceIte, Nat.reduceAdd, resultsA, results1, Int.reduceNeg, splice, Nat.reduceLeDiff, part, fillA, fillE, Nat.reduceLT]
            · simp (maxDischargeDepth := 30) only [f30, amL, args0, Nat.reduceEqDiff, reduceCtorEq, ↓reduceIte, Nat.reduceAdd, resultsA, results1, Int.reduceNeg, splice, Nat.reduceLeDiff, part, fillA, fillE, Nat.reduceLT]
            · simp (maxDischargeDepth := 30) only [f31, amL, args0, Nat.reduceEqDiff, reduceCtorEq, ↓reduceIte, Nat.reduceAdd, resultsA, results1, Int.reduceNeg, splice, Nat.reduceLeDiff, part, fillA, fillE, Nat.reduceLT]
            · simp (maxDischargeDepth := 30) only [amL, args0, Nat.reduceEqDiff, reduceCtorEq, ↓reduceIte, Nat.reduceAdd, resultsA, results1, Int.reduceNeg, splice, Nat.reduceLeDiff, part, fillA, fillE, Nat.reduceLT]
            · exact (hg.app.set (by omega) _).app
            · rw [hTs i x hx, if_pos c1]
              refine getElem?_grow ?_
              rw [List.getElem?_set_self (by simp; omega)]
          · simp (maxDischargeDepth := 30) only [h, f0, f30, f31, f32, ix, ld, c1, w3, amL, args0, Nat.reduceEqDiff, reduceCtorEq, ↓reduceIte, Nat.reduceAdd, resultsA, results1, Int.reduceNeg, splice, Nat.reduceLeDiff, part, fillA, fillE, Nat.reduceLT]
            refine ⟨_, ?_, i + 1, by omega, rfl, ?_, ?_, ?_, ?_, hg.app, ?_⟩
            · omega
            · simp (maxDischargeDepth := 30) only [f0, amL, args0, Nat.reduceEqDiff, reduceCtorEq, ↓reduceIte, Nat.reduceAdd, resultsA, results1, Int.reduceNeg, splice, Nat.reduceLeDiff, part, fillA, fillE, Nat.reduceLT]
            · simp (maxDischargeDepth := 30) only [f30, amL, args0, Nat.reduceEqDiff, reduceCtorEq, ↓reduceIte, Nat.reduceAdd, resultsA, results1, Int.reduceNeg, splice, Nat.reduceLeDiff, part, fillA, fillE, Nat.reduceLT]
            · simp (maxDischargeDepth := 30) only [f31, amL, args0, Nat.reduceEqDiff, reduceCtorEq, ↓reduceIte, Nat.reduceAdd, resultsA, results1, Int.reduceNeg, splice, Nat.reduceLeDiff, part, fillA, fillE, Nat.reduceLT]
            · simp (maxDischargeDepth := 30) only [amL, args0, Nat.reduceEqDiff, reduceCtorEq, ↓reduceIte, Nat.reduceAdd, resultsA, results1, Int.reduceNeg, splice, Nat.reduceLeDiff, part, fillA, fillE, Nat.reduceLT]
            · rw [hTs i x hx, if_neg c1]
              exact getElem?_grow hMB
        · have : i = l.length := by omega
          subst this
          have h64' : ((s : Nat) ≤ 64) = True := by simp [h64]
          simp (maxDischargeDepth := 30) only [h, f0, f30, f31, f32, h64', amL, args0, Nat.reduceEqDiff, reduceCtorEq, ↓reduceIte, Nat.reduceAdd, resultsA, results1, Int.reduceNeg, splice, Nat.reduceLeDiff, part, fillA, fillE, Nat.reduceLT]
          refine ⟨B, s, true, hBm, ?_, ?_⟩
          · rw [← hTl, (hTlen _ (Nat.le_refl _)).1, hM1]; exact hg
          · rw [← hTl]; exact hMB
      · refine ⟨0, by omega, rfl, by simp (maxDischargeDepth := 30) only [f0, amL, args0, Nat.reduceEqDiff, reduceCtorEq, ↓reduceIte, Nat.reduceAdd, resultsA, results1, Int.reduceNeg, splice, Nat.reduceLeDiff, part, fillA, fillE, Nat.reduceLT], by simp (maxDischargeDepth := 30) only [amL, args0, Nat.reduceEqDiff, reduceCtorEq, ↓reduceIte, Nat.reduceAdd, resultsA, results1, Int.reduceNeg, splice, Nat.reduceLeDiff, part, fillA, fillE, Nat.reduceLT], by simp (maxDischargeDepth := 30) only [amL, args0, Nat.reduceEqDiff, reduceCtorEq, ↓reduceIte, Nat.reduceAdd, resultsA, results1, Int.reduceNeg, splice, Nat.reduceLeDiff, part, fillA, fillE, Nat.reduceLT], by simp (maxDischargeDepth := 30) only [amL, args0, Nat.reduceEqDiff, reduceCtorEq, ↓reduceIte, Nat.reduceAdd, resultsA, results1, Int.reduceNeg, splice, Nat.reduceLeDiff, part, fillA, fillE, Nat.reduceLT]; rfl, (Grow.refl _).app.app, ?_⟩
        rw [hT0]
        have : (M1 ++ g).length = B := by rw [← hB]; simp [hm1]
        rw [← this]
        exact List.getElem?_concat_length
  · refine ⟨8, by omega, by omega, ?_, by simp (maxDischargeDepth := 30) only [amL, args0, Nat.reduceEqDiff, reduceCtorEq, ↓reduceIte, Nat.reduceAdd, resultsA, results1, Int.reduceNeg, splice, Nat.reduceLeDiff, part, fillA, fillE, Nat.reduceLT], by simp (maxDischargeDepth := 30) only [amL, args0, Nat.reduceEqDiff, reduceCtorEq, ↓reduceIte, Nat.reduceAdd, resultsA, results1, Int.reduceNeg, splice, Nat.reduceLeDiff, part, fillA, fillE, Nat.reduceLT]; rfl, by simp (maxDischargeDepth := 30) only [amL, args0, Nat.reduceEqDiff, reduceCtorEq, ↓reduceIte, Nat.reduceAdd, resultsA, results1, Int.reduceNeg, splice, Nat.reduceLeDiff, part, fillA, fillE, Nat.reduceLT], rfl⟩
    omega
end Go.AM.G
