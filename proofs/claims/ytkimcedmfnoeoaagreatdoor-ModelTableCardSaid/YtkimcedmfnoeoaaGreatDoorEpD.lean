/- A key's value is asked for; a table of its own memory; a key is laid; a table is laid anew. -/
import Derived.Test.YtkimcedmfnoeoaaGreatDoorEpB
set_option linter.unusedVariables false
set_option linter.unusedSimpArgs false

set_option maxRecDepth 100000
namespace Go.AM.G.E
open Go Go.AM Go.AM.G
theorem findF_spec {l : List Slot} {key : Int} : ∀ {f i : Nat} {g : Option Nat}, 0 < l.length → i < l.length → (∀ y, g = some y → y < l.length) → (findF l key f i g).1 < l.length ∧ ((findF l key f i g).2 = true → ∃ s : Slot, l[(findF l key f i g).1]? = some s ∧ s.st = 1 ∧ s.key = key)
  | 0, i, g, h0, hi, hg => ⟨hi, by simp [findF]⟩
  | f + 1, i, g, h0, hi, hg => by
    obtain ⟨s, hs⟩ : ∃ s, l[i]? = some s := ⟨_, List.getElem?_eq_getElem hi⟩
    simp only [findF, hs]
    split
    · refine ⟨?_, by simp⟩
      cases g with
      | none => exact hi
      | some y => exact hg y rfl
    · split
      · rename_i h
        exact ⟨hi, fun _ => ⟨s, hs, h.1, h.2⟩⟩
      · refine findF_spec h0 (Nat.mod_lt _ h0) ?_
        intro y hy
        split at hy
        · cases hy; exact hi
        · exact hg y hy
theorem findL_spec {l : List Slot} {key : Int} (hp : Pow l.length) : (findL l key).1 < l.length ∧ ((findL l key).2 = true → ∃ s : Slot, l[(findL l key).1]? = some s ∧ s.st = 1 ∧ s.key = key) := by
  have := hp.le
  obtain ⟨h0, h1⟩ := home_range (key := key) hp
  unfold findL
  rw [if_neg (by omega)]
  exact findF_spec (by omega) (by omega) (by simp)
def getL (l : List Slot) (key : Int) : Int × Int :=
  if validB l = true then
    if key = 0 then (0, 7) else
    if (findL l key).2 = true then (((l[(findL l key).1]?).map (·.val)).getD 0, 0) else (0, 3)
  else (0, 2)
theorem Get_spec {m : Mem} {v : V} {l : List Slot} (key : Int) (hv : Sl m v 3 (encs l)) (hlt : l.length < 2 ^ 60) : C S n_ephem_Get [.agg [v], .int .u64 key] m (fun r m' => r = .tup [.int .u64 (getL l key).1, .int .i64 (getL l key).2] ∧ Grow m m') := by
  refine C_body rfl rfl rfl ?_
  unfold ephem_Get
  have hcell := hv.cell
  simp (maxDischargeDepth := 30) only [hcell, amL, args0, Nat.reduceEqDiff, reduceCtorEq, ↓reduceIte, Nat.reduceAdd, resultsA, results1, Int.reduceNeg, splice, Nat.reduceLeDiff, part, fillA, fillE, Nat.reduceLT]
  refine (Check_spec hv.app hlt).mono ?_
  rintro _ _ ⟨rfl, g, rfl⟩
  by_cases hval : validB l = true
  · have c : ¬ ¬ (0 : Int) = 0 := by omega
    have hvc := valid_cases hval
    simp (maxDischargeDepth := 30) only [aft_mk, hval, hcell, c, amL, args0, Nat.reduceEqDiff, reduceCtorEq, ↓reduceIte, Nat.reduceAdd, resultsA, results1, Int.reduceNeg, splice, Nat.reduceLeDiff, part, fillA, fillE, Nat.reduceLT]
    refine (find_spec (v := v) (l := l) key (by simp (maxDischargeDepth := 30) only [amL, args0, Nat.reduceEqDiff, reduceCtorEq, ↓reduceIte, Nat.reduceAdd, resultsA, results1, Int.reduceNeg, splice, Nat.reduceLeDiff, part, fillA, fillE, Nat.reduceLT]) (by simp (maxDischargeDepth := 30) only [amL, args0, Nat.reduceEqDiff, reduceCtorEq, ↓reduceIte, Nat.reduceAdd, resultsA, results1, Int.reduceNeg, splice, Nat.reduceLeDiff, part, fillA, fillE, Nat.reduceLT]) hv.app.app.app hvc).mono ?_
    rintro _ _ ⟨rfl, g', rfl⟩
    by_cases hk : key = 0
    · simp (maxDischargeDepth := 30) only [aft_mk, hk, getL, hval, amL, args0, Nat.reduceEqDiff, reduceCtorEq, ↓reduceIte, Nat.reduceAdd, resultsA, results1, Int.reduceNeg, splice, Nat.reduceLeDiff, part, fillA, fillE, Nat.reduceLT]
      exact (Grow.refl _).app.app.app.app
    by_cases hf : (findL l key).2 = true
    · rcases hvc with h0 | ⟨hpow, _⟩
      · simp [findL, h0] at hf
      obtain ⟨hlt2, hfs⟩ := findL_spec (key := key) hpow
      obtain ⟨s, hs, hs1, hs2⟩ := hfs hf
      have hlen : (encs l).length = l.length := by simp
      have ix := hv.index (ki := .i64) (n := (findL l key).1) (by omega) (by omega)
      have ld := fun o k => hv.load (o := o) (k := k) (encs_get hs)
      simp only [Int.toNat_natCast, enc] at ix ld
      simp (maxDischargeDepth := 30) only [aft_mk, hk, hf, getL, hval, hcell, ix, ld, hs, Option.getD_some, amL, args0, Nat.reduceEqDiff, reduceCtorEq, ↓reduceIte, Nat.reduceAdd, resultsA, results1, Int.reduceNeg, splice, Nat.reduceLeDiff, part, fillA, fillE, Nat.reduceLT]
      exact (Grow.refl _).app.app.app.app
    · simp (maxDischargeDepth := 30) only [aft_mk, hk, hf, getL, hval, amL, args0, Nat.reduceEqDiff, reduceCtorEq, ↓reduceIte, Nat.reduceAdd, resultsA, results1, Int.reduceNeg, splice, Nat.reduceLeDiff, part, fillA, fillE, Nat.reduceLT]
      exact (Grow.refl _).app.app.app.app
  · have c : ¬ (2 : Int) = 0 := by omega
    simp (maxDischargeDepth := 30) only [aft_mk, hval, hcell, c, getL, amL, args0, Nat.reduceEqDiff, reduceCtorEq, ↓reduceIte, Nat.reduceAdd, resultsA, results1, Int.reduceNeg, splice, Nat.reduceLeDiff, part, fillA, fillE, Nat.reduceLT]
    exact (Grow.refl _).app.app
theorem Clone_spec {m : Mem} {v : V} {l : List Slot} (hv : Sl m v 3 (encs l)) (hl : l.length < 5864062014806) : C S n_slices_Clone_EphSlot [v] m (fun r m' => Grow m m' ∧ Fresh m.length m' r 3 (encs l)) := by
  refine C_body rfl rfl rfl ?_
  unfold slices_Clone_EphSlot
  have hlen : (encs l).length = l.length := by simp
  rcases hv.cases with ⟨rfl, he⟩ | ⟨b, i, len, cap, ex, rfl⟩
  · simp (maxDischargeDepth := 30) only [amL, args0, Nat.reduceEqDiff, reduceCtorEq, ↓reduceIte, Nat.reduceAdd, resultsA, results1, Int.reduceNeg, splice, Nat.reduceLeDiff, part, fillA, fillE, Nat.reduceLT]
    exact ⟨Grow.refl _, Fresh.mk (.inl ⟨rfl, he⟩)⟩
  · simp (maxDischargeDepth := 30) only [amL, args0, Nat.reduceEqDiff, reduceCtorEq, ↓reduceIte, Nat.reduceAdd, resultsA, results1, Int.reduceNeg, splice, Nat.reduceLeDiff, part, fillA, fillE, Nat.reduceLT]
    obtain ⟨v', m', h1, h2, h3⟩ := append_new (zero := [V.int .u8 0, V.int .u64 0, V.int .u64 0]) (bytes := 24) hv rfl (by omega) (by omega)
    refine ⟨v', m', h1, ?_⟩
    exact ⟨h2, h3⟩
theorem Own_spec {m : Mem} {v : V} {l : List Slot} (hv : Sl m v 3 (encs l)) (hl : l.length < 5864062014806) : C S n_ephem_Own [.agg [v]] m (fun r m' => ∃ v', r = .agg [v'] ∧ Grow m m' ∧ Fresh m.length m' v' 3 (encs l)) := by
  refine C_body rfl rfl rfl ?_
  unfold ephem_Own
  have hcell := hv.cell
  simp (maxDischargeDepth := 30) only [hcell, amL, args0, Nat.reduceEqDiff, reduceCtorEq, ↓reduceIte, Nat.reduceAdd, resultsA, results1, Int.reduceNeg, splice, Nat.reduceLeDiff, part, fillA, fillE, Nat.reduceLT]
  refine (Clone_spec hv.app.app hl).mono ?_
  rintro v' m' ⟨⟨g, rfl⟩, hf⟩
  have hc' := hf.1.cell
  simp (maxDischargeDepth := 30) only [aft_mk, hc', amL, args0, Nat.reduceEqDiff, reduceCtorEq, ↓reduceIte, Nat.reduceAdd, resultsA, results1, Int.reduceNeg, splice, Nat.reduceLeDiff, part, fillA, fillE, Nat.reduceLT]
  exact ⟨v', rfl, (Grow.refl _).app.app.app, hf.swap.weaken (by simp)⟩
def layL (l : List Slot) (key val : Int) : List Slot := l.set (findL l key).1 ⟨1, key, val⟩
theorem lay_spec {m : Mem} {p : V} {b cap : Nat} {ex : Bool} {l : List Slot} (key val : Int) (hp : loadV m none p = some (.slice b 0 l.length cap ex 3)) (hpp : asPtr 0 p = some p) (hb : m[b]? = some (.cells true (encs l))) (hpow : Pow l.length) (hf : 0 < cnt 0 l) :
    C S n_ephem_table_lay [p, .int .u64 key, .int .u64 val] m (fun _ m' => Grow (m.set b (.cells true (encs (layL l key val)))) m') := by
  have hlen : (encs l).length = l.length := by simp
  have hv : Sl m (.slice b 0 l.length cap ex 3) 3 (encs l) := by rw [← hlen]; exact Sl.mk hb
  refine C_body rfl rfl rfl ?_
  unfold ephem_table_lay
  simp (maxDischargeDepth := 30) only [amL, args0, Nat.reduceEqDiff, reduceCtorEq, ↓reduceIte, Nat.reduceAdd, resultsA, results1, Int.reduceNeg, splice, Nat.reduceLeDiff, part, fillA, fillE, Nat.reduceLT]
  refine (find_spec key hp hpp hv (.inr ⟨hpow, hf⟩)).mono ?_
  rintro _ _ ⟨rfl, g, rfl⟩
  obtain ⟨hi, _⟩ := findL_spec (key := key) hpow
  obtain ⟨s, hs⟩ : ∃ s, l[(findL l key).1]? = some s := ⟨_, List.getElem?_eq_getElem hi⟩
  have ix := hv.index (ki := .i64) (n := (findL l key).1) (by omega) (by omega)
  have st := store_own (n := 3) (len := l.length) (cap := cap) (z := 3) (ex := ex) (x := .agg [.int .u8 1, .int .u64 key, .int .u64 val]) hb (encs_get hs) rfl rfl rfl
  have e : (encs l).set (findL l key).1 [.int .u8 1, .int .u64 key, .int .u64 val] = encs (layL l key val) := by simp [layL, List.map_set, enc]
  simp only [Int.toNat_natCast, cells_agg, e] at ix st
  simp (maxDischargeDepth := 30) only [aft_mk, hp, hpp, ix, st, amL, args0, Nat.reduceEqDiff, reduceCtorEq, ↓reduceIte, Nat.reduceAdd, resultsA, results1, Int.reduceNeg, splice, Nat.reduceLeDiff, part, fillA, fillE, Nat.reduceLT]
  exact (Grow.refl _).app
/-- the least room for so many and one more. -/
def sizeL (used : Nat) : Nat := if 2 * (used + 1) ≤ 8 then 8 else if 2 * (used + 1) ≤ 16 then 16 else if 2 * (used + 1) ≤ 32 then 32 else if 2 * (used + 1) ≤ 64 then 64 else 128
def zeroS : Slot := ⟨0, 0, 0⟩
def anewL (l : List Slot) : List Slot := l.foldl (fun t s => if s.st = 1 then layL t s.key s.val else t) (List.replicate (sizeL (cnt 1 l)) zeroS)
theorem layL_length {l : List Slot} {key val : Int} : (layL l key val).length = l.length := by simp [layL]
theorem cnt_set {l : List Slot} {i : Nat} {s : Slot} {st : Int} : cnt st l ≤ cnt st (l.set i s) + 1 := by
  induction l generalizing i with
  | nil => simp [cnt]
  | cons a l ih =>
    cases i with
    | zero => simp only [List.set_cons_zero, cnt, List.countP_cons]; split <;> split <;> omega
    | succ i =>
      have := ih (i := i)
      simp only [List.set_cons_succ, cnt, List.countP_cons] at this ⊢
      omega
theorem sizeL_cases (u : Nat) : (sizeL u = 8 ∧ 2 * (u + 1) ≤ 8) ∨ (sizeL u = 16 ∧ 8 < 2 * (u + 1) ∧ 2 * (u + 1) ≤ 16) ∨ (sizeL u = 32 ∧ 16 < 2 * (u + 1) ∧ 2 * (u + 1) ≤ 32) ∨ (sizeL u = 64 ∧ 32 < 2 * (u + 1) ∧ 2 * (u + 1) ≤ 64) ∨ (sizeL u = 128 ∧ 64 < 2 * (u + 1)) := by
  unfold sizeL
  split
  · omega
  split
  · omega
  split
  · omega
  split <;> omega
theorem encs_z {l : List Slot} : ∀ el ∈ encs l, el.length = 3 := by
  intro el h
  obtain ⟨s, _, rfl⟩ := List.mem_map.1 h
  rfl
theorem anew_spec {m : Mem} {bt : Nat} {v : V} {l : List Slot} (hbt : m[bt]? = some (.cells true [[v]])) (hv : Sl m v 3 (encs l)) (hn : l.length ≤ 64) (hu63 : cnt 1 l ≤ 63) :
    C S n_ephem_table_anew [.ptr bt 0 0] m (fun r m' => r = .bool (decide (sizeL (cnt 1 l) ≤ 64)) ∧ if sizeL (cnt 1 l) ≤ 64 then ∃ b cap ex, m.length ≤ b ∧ Grow (m.set bt (.cells true [[.slice b 0 (anewL l).length cap ex 3]])) m' ∧ m'[b]? = some (.cells true (encs (anewL l))) else Grow m m') := by
  have hlen : (encs l).length = l.length := by simp
  have hbl := (List.getElem?_eq_some_iff.1 hbt).1
  have hp0 : loadV m none (.ptr bt 0 0) = some v := by simp [loadV, hbt, part]
  refine C_body rfl rfl rfl ?_
  unfold ephem_table_anew
  simp (maxDischargeDepth := 30) only [amL, args0, Nat.reduceEqDiff, reduceCtorEq, ↓reduceIte, Nat.reduceAdd, resultsA, results1, Int.reduceNeg, splice, Nat.reduceLeDiff, part, fillA, fillE, Nat.reduceLT]
  refine (many_spec 1 hp0 rfl hv (by omega)).mono ?_
  rintro _ _ ⟨rfl, g, rfl⟩
  have hcl := cnt_le 1 l
  have hsc := sizeL_cases (cnt 1 l)
  generalize hu : cnt 1 l = used at *
  have w1 : IntKind.i64.wrap ((used : Int) + 1) = ((used + 1 : Nat) : Int) := by rw [wrap_i64] <;> omega
  simp (maxDischargeDepth := 30) only [aft_mk, w1, amL, args0, Nat.reduceEqDiff, reduceCtorEq, ↓reduceIte, Nat.reduceAdd, resultsA, results1, Int.reduceNeg, splice, Nat.reduceLeDiff, part, fillA, fillE, Nat.reduceLT]
  have w2 : IntKind.i64.wrap (2 * ((used + 1 : Nat) : Int)) = ((2 * (used + 1) : Nat) : Int) := by rw [wrap_i64] <;> omega
  let I := fun (n : Nat) (fr : Frame) (M : Mem) => ∃ s : Nat, (s = 8 ∨ s = 16 ∨ s = 32 ∨ s = 64 ∨ s = 128) ∧ n = 128 - s ∧ s ≤ sizeL used ∧ fr 0 = .ptr bt 0 0 ∧ fr 3 = .int .i64 s ∧ fr 4 = .int .i64 (used + 1 : Nat) ∧ M = m ++ g
  refine W_loop I ?_ 120 ?_
  · rintro n fr M ⟨s, hs, rfl, hsz, f0, f3, f4, rfl⟩
    unfold ephem_table_anew_l0
    simp (maxDischargeDepth := 30) only [f0, f3, f4, w2, amL, args0, Nat.reduceEqDiff, reduceCtorEq, ↓reduceIte, Nat.reduceAdd, resultsA, results1, Int.reduceNeg, splice, Nat.reduceLeDiff, part, fillA, fillE, Nat.reduceLT]
    first | (refine O_split (by simp only [put_apply, Nat.reduceEqDiff, ↓reduceIte, reduceCtorEq]; rfl) (fun h => ?_) (fun h => ?_) <;> simp only [decide_eq_true_eq, decide_eq_false_iff_not, Decidable.not_not, Bool.and_eq_true, Bool.not_eq_true', Bool.not_eq_false'] at h) | (refine W_split (by simp only [get_t, put_apply, Nat.reduceEqDiff, ↓reduceIte, reduceCtorEq]; rfl) (fun h => ?_) (fun h => ?_) <;> simp only [decide_eq_true_eq, decide_eq_false_iff_not, Decidable.not_not, Bool.and_eq_true, Bool.not_eq_true', Bool.not_eq_false'] at h)
    · have w3 : IntKind.i64.wrap ((s : Int) * 2) = ((s * 2 : Nat) : Int) := by rw [wrap_i64] <;> omega
      simp (maxDischargeDepth := 30) only [h, f0, f3, f4, w2, w3, amL, args0, Nat.reduceEqDiff, reduceCtorEq, ↓reduceIte, Nat.reduceAdd, resultsA, results1, Int.reduceNeg, splice, Nat.reduceLeDiff, part, fillA, fillE, Nat.reduceLT]
      refine ⟨128 - s * 2, ?_, s * 2, ?_, rfl, ?_, ?_, ?_, ?_, rfl⟩
      · omega
      · omega
      · omega
      all_goals simp (maxDischargeDepth := 30) only [f0, f3, f4, amL, args0, Nat.reduceEqDiff, reduceCtorEq, ↓reduceIte, Nat.reduceAdd, resultsA, results1, Int.reduceNeg, splice, Nat.reduceLeDiff, part, fillA, fillE, Nat.reduceLT]
    · have hss : sizeL used = s := by omega
      rw [hss]
      simp (maxDischargeDepth := 30) only [h, f0, f3, f4, w2, amL, args0, Nat.reduceEqDiff, reduceCtorEq, ↓reduceIte, Nat.reduceAdd, resultsA, results1, Int.reduceNeg, splice, Nat.reduceLeDiff, part, fillA, fillE, Nat.reduceLT]
      first | (refine O_split (by simp only [put_apply, Nat.reduceEqDiff, ↓reduceIte, reduceCtorEq]; rfl) (fun h2 => ?_) (fun h2 => ?_) <;> simp only [decide_eq_true_eq, decide_eq_false_iff_not, Decidable.not_not, Bool.and_eq_true, Bool.not_eq_true', Bool.not_eq_false'] at h2) | (refine W_split (by simp only [get_t, put_apply, Nat.reduceEqDiff, ↓reduceIte, reduceCtorEq]; rfl) (fun h2 => ?_) (fun h2 => ?_) <;> simp only [decide_eq_true_eq, decide_eq_false_iff_not, Decidable.not_not, Bool.and_eq_true, Bool.not_eq_true', Bool.not_eq_false'] at h2)
      · have : ¬ s ≤ 64 := by omega
        simp (maxDischargeDepth := 30) only [this, amL, args0, Nat.reduceEqDiff, reduceCtorEq, ↓reduceIte, Nat.reduceAdd, resultsA, results1, Int.reduceNeg, splice, Nat.reduceLeDiff, part, fillA, fillE, Nat.reduceLT]
        exact (Grow.refl _).app
      have h64 : s ≤ 64 := by omega
      have hbt' : (m ++ g)[bt]? = some (.cells true [[v]]) := getElem?_grow hbt
      have hp1 : loadV (m ++ g) none (.ptr bt 0 0) = some v := loadV_some hp0
      have rm : 0 ≤ (s : Int) ∧ (s : Int) ≤ s ∧ roomy (s : Int).toNat 24 = true := by simp [roomy]; omega
      simp (maxDischargeDepth := 30) only [h, f0, f3, f4, hp0, hp1, rm, amL, args0, Nat.reduceEqDiff, reduceCtorEq, ↓reduceIte, Nat.reduceAdd, resultsA, results1, Int.reduceNeg, splice, Nat.reduceLeDiff, part, fillA, fillE, Nat.reduceLT]
      have st1 : ∀ x : V, x.isCell = true → storeV m 1 (.ptr bt 0 0) x = some (m.set bt (.cells true [[x]])) := fun x hx => by
        simp [storeV, hbt, cells_cell hx, hx, splice]
      have rm' : roomy s 24 = true := by simpa using rm.2.2
      have hll : (encs l).length = l.length := hlen
      simp (maxDischargeDepth := 30) only [st1, Int.toNat_natCast, rm', hv.len, hll, amL, args0, Nat.reduceEqDiff, reduceCtorEq, ↓reduceIte, Nat.reduceAdd, resultsA, results1, Int.reduceNeg, splice, Nat.reduceLeDiff, part, fillA, fillE, Nat.reduceLT]
      generalize hB : List.length (m ++ g) = B
      have hBm : m.length ≤ B := by rw [← hB]; simp
      have hm1 : (m.set bt (.cells true [[V.slice B 0 s s true 3]])).length = m.length := by simp
      have hvv : Sl (m.set bt (.cells true [[V.slice B 0 s s true 3]])) v 3 (encs l) := hv.set_other encs_z hbt (by simp) rfl
      have hbt1 : (m.set bt (.cells true [[V.slice B 0 s s true 3]]))[bt]? = some (.cells true [[V.slice B 0 s s true 3]]) := List.getElem?_set_self hbl
      generalize hM1 : m.set bt (.cells true [[V.slice B 0 s s true 3]]) = M1 at hm1 hvv hbt1
      have hzz : List.replicate s [V.int .u8 0, V.int .u64 0, V.int .u64 0] = encs (List.replicate s zeroS) := by simp [enc, zeroS]
      rw [hzz]
      have hfin : (anewL l) = l.foldl (fun t s => if s.st = 1 then layL t s.key s.val else t) (List.replicate s zeroS) := by simp [anewL, hu, hss]
      have hps : Pow s := by unfold Pow; omega
      let T := fun (i : Nat) => (l.take i).foldl (fun t s => if s.st = 1 then layL t s.key s.val else t) (List.replicate s zeroS)
      have hT0 : T 0 = List.replicate s zeroS := rfl
      have hTs : ∀ i x, l[i]? = some x → T (i + 1) = if x.st = 1 then layL (T i) x.key x.val else T i := by
        intro i x hx
        obtain ⟨a1, e1⟩ := List.getElem?_eq_some_iff.1 hx
        simp only [T]
        rw [List.take_succ_eq_append_getElem a1, e1, List.foldl_append]
        rfl
      have hTl : T l.length = anewL l := by simp only [T, hfin, List.take_length]
      have hTlen : ∀ i, i ≤ l.length → (T i).length = s ∧ s ≤ cnt 0 (T i) + cnt 1 (l.take i) := by
        intro i
        induction i with
        | zero => intro _; rw [hT0]; simp [cnt, zeroS, List.countP_replicate]
        | succ i ih =>
          intro hi
          obtain ⟨x, hx⟩ : ∃ x, l[i]? = some x := ⟨_, List.getElem?_eq_getElem (by omega)⟩
          obtain ⟨a, b⟩ := ih (by omega)
          rw [hTs i x hx, cnt_succ hx]
          split
          · refine ⟨by rw [layL_length]; exact a, ?_⟩
            have := cnt_set (l := T i) (i := (findL (T i) x.key).1) (s := ⟨1, x.key, x.val⟩) (st := 0)
            unfold layL
            omega
          · exact ⟨a, by omega⟩
      let J := fun (n : Nat) (fr : Frame) (M : Mem) => ∃ i : Nat, i ≤ l.length ∧ n = l.length - i ∧ fr 0 = .ptr bt 0 0 ∧ fr 30 = v ∧ fr 31 = .int .i64 l.length ∧ fr 32 = .int .i64 i ∧ Grow M1 M ∧ M[B]? = some (.cells true (encs (T i)))
      refine W_loop J ?_ l.length ?_
      · rintro n fr M ⟨i, hi, rfl, f0, f30, f31, f32, hg, hMB⟩
        unfold ephem_table_anew_l1
        simp (maxDischargeDepth := 30) only [f0, f30, f31, f32, amL, args0, Nat.reduceEqDiff, reduceCtorEq, ↓reduceIte, Nat.reduceAdd, resultsA, results1, Int.reduceNeg, splice, Nat.reduceLeDiff, part, fillA, fillE, Nat.reduceLT]
        first | (refine O_split (by simp only [put_apply, Nat.reduceEqDiff, ↓reduceIte, reduceCtorEq]; rfl) (fun h => ?_) (fun h => ?_) <;> simp only [decide_eq_true_eq, decide_eq_false_iff_not, Decidable.not_not, Bool.and_eq_true, Bool.not_eq_true', Bool.not_eq_false'] at h) | (refine W_split (by simp only [get_t, put_apply, Nat.reduceEqDiff, ↓reduceIte, reduceCtorEq]; rfl) (fun h => ?_) (fun h => ?_) <;> simp only [decide_eq_true_eq, decide_eq_false_iff_not, Decidable.not_not, Bool.and_eq_true, Bool.not_eq_true', Bool.not_eq_false'] at h)
        · have hil : i < l.length := by omega
          obtain ⟨x, hx⟩ : ∃ x, l[i]? = some x := ⟨_, List.getElem?_eq_getElem hil⟩
          have hsl := hvv.grow hg
          have ix := hsl.index (ki := .i64) (n := i) (by omega) (by omega)
          have ld := fun o k => hsl.load (o := o) (k := k) (encs_get hx)
          simp only [Int.toNat_natCast, enc] at ix ld
          have w3 : IntKind.i64.wrap ((i : Int) + 1) = ((i + 1 : Nat) : Int) := by rw [wrap_i64] <;> omega
          obtain ⟨tl, tc⟩ := hTlen i hi
          have hfree : 0 < cnt 0 (T i) := by
            have : cnt 1 (l.take i) ≤ cnt 1 l := List.Sublist.countP_le (List.take_sublist i l)
            omega
          by_cases c1 : x.st = 1
          · simp (maxDischargeDepth := 30) only [h, f0, f30, f31, f32, ix, ld, c1, amL, args0, Nat.reduceEqDiff, reduceCtorEq, ↓reduceIte, Nat.reduceAdd, resultsA, results1, Int.reduceNeg, splice, Nat.reduceLeDiff, part, fillA, fillE, Nat.reduceLT]
            have hpl : loadV M none (.ptr bt 0 0) = some (.slice B 0 (T i).length s true 3) := by
              rw [tl]
              simp [loadV, hg.get hbt1, part]
            refine (lay_spec x.key x.val (loadV_some hpl) rfl (getElem?_grow hMB) (by rw [tl]; exact hps) hfree).mono ?_
            rintro _ M' ⟨g', rfl⟩
            have hBl : B < M.length := (List.getElem?_eq_some_iff.1 hMB).1
            simp (maxDischargeDepth := 30) only [aft_mk, f0, f30, f31, f32, w3, amL, args0, Nat.reduceEqDiff, reduceCtorEq, ↓reduceIte, Nat.reduceAdd, resultsA, results1, Int.reduceNeg, splice, Nat.reduceLeDiff, part, fillA, fillE, Nat.reduceLT]
            refine ⟨_, ?_, i + 1, by omega, rfl, ?_, ?_, ?_, ?_, ?_, ?_⟩
            · omega
            · simp (maxDischargeDepth := 30) only [f0, amL, args0, Nat.reduceEqDiff, reduceCtorEq, ↓reduceIte, Nat.reduceAdd, resultsA, results1, Int.reduceNeg, splice, Nat.reduceLeDiff, part, fillA, fillE, Nat.reduceLT]
            · simp (maxDischargeDepth := 30) only [f30, amL, args0, Nat.reduceEqDiff, reduceCtorEq, ↓reduceIte, Nat.reduceAdd, resultsA, results1, Int.reduceNeg, splice, Nat.reduceLeDiff, part, fillA, fillE, Nat.reduceLT]
            · simp (maxDischargeDepth := 30) only [f31, amL, args0, Nat.reduceEqDiff, reduceCtorEq, ↓reduceIte, Nat.reduceAdd, resultsA, results1, Int.reduceNeg, splice, Nat.reduceLeDiff, part, fillA, fillE, Nat.reduceLT]
            · simp (maxDischargeDepth := 30) only [amL, args0, Nat.reduceEqDiff, reduceCtorEq, ↓reduceIte, Nat.reduceAdd, resultsA, results1, Int.reduceNeg, splice, Nat.reduceLeDiff, part, fillA, fillE, Nat.reduceLT]
            · exact (hg.app.set (by omega) _).app
            · rw [hTs i x hx, if_pos c1]
              refine getElem?_grow ?_
              rw [List.getElem?_set_self (by simp; omega)]
          · simp (maxDischargeDepth := 30) only [h, f0, f30, f31, f32, ix, ld, c1, w3, amL, args0, Nat.reduceEqDiff, reduceCtorEq, ↓reduceIte, Nat.reduceAdd, resultsA, results1, Int.reduceNeg, splice, Nat.reduceLeDiff, part, fillA, fillE, Nat.reduceLT]
            refine ⟨_, ?_, i + 1, by omega, rfl, ?_, ?_, ?_, ?_, hg.app, ?_⟩
            · omega
            · simp (maxDischargeDepth := 30) only [f0, amL, args0, Nat.reduceEqDiff, reduceCtorEq, ↓reduceIte, Nat.reduceAdd, resultsA, results1, Int.reduceNeg, splice, Nat.reduceLeDiff, part, fillA, fillE, Nat.reduceLT]
            · simp (maxDischargeDepth := 30) only [f30, amL, args0, Nat.reduceEqDiff, reduceCtorEq, ↓reduceIte, Nat.reduceAdd, resultsA, results1, Int.reduceNeg, splice, Nat.reduceLeDiff, part, fillA, fillE, Nat.reduceLT]
            · simp (maxDischargeDepth := 30) only [f31, amL, args0, Nat.reduceEqDiff, reduceCtorEq, ↓reduceIte, Nat.reduceAdd, resultsA, results1, Int.reduceNeg, splice, Nat.reduceLeDiff, part, fillA, fillE, Nat.reduceLT]
            · simp (maxDischargeDepth := 30) only [amL, args0, Nat.reduceEqDiff, reduceCtorEq, ↓reduceIte, Nat.reduceAdd, resultsA, results1, Int.reduceNeg, splice, Nat.reduceLeDiff, part, fillA, fillE, Nat.reduceLT]
            · rw [hTs i x hx, if_neg c1]
              exact getElem?_grow hMB
        · have : i = l.length := by omega
          subst this
          have h64' : ((s : Nat) ≤ 64) = True := by simp [h64]
          simp (maxDischargeDepth := 30) only [h, f0, f30, f31, f32, h64', amL, args0, Nat.reduceEqDiff, reduceCtorEq, ↓reduceIte, Nat.reduceAdd, resultsA, results1, Int.reduceNeg, splice, Nat.reduceLeDiff, part, fillA, fillE, Nat.reduceLT]
          refine ⟨B, s, true, hBm, ?_, ?_⟩
          · rw [← hTl, (hTlen _ (Nat.le_refl _)).1, hM1]; exact hg
          · rw [← hTl]; exact hMB
      · refine ⟨0, by omega, rfl, by simp (maxDischargeDepth := 30) only [f0, amL, args0, Nat.reduceEqDiff, reduceCtorEq, ↓reduceIte, Nat.reduceAdd, resultsA, results1, Int.reduceNeg, splice, Nat.reduceLeDiff, part, fillA, fillE, Nat.reduceLT], by simp (maxDischargeDepth := 30) only [amL, args0, Nat.reduceEqDiff, reduceCtorEq, ↓reduceIte, Nat.reduceAdd, resultsA, results1, Int.reduceNeg, splice, Nat.reduceLeDiff, part, fillA, fillE, Nat.reduceLT], by simp (maxDischargeDepth := 30) only [amL, args0, Nat.reduceEqDiff, reduceCtorEq, ↓reduceIte, Nat.reduceAdd, resultsA, results1, Int.reduceNeg, splice, Nat.reduceLeDiff, part, fillA, fillE, Nat.reduceLT], by simp (maxDischargeDepth := 30) only [amL, args0, Nat.reduceEqDiff, reduceCtorEq, ↓reduceIte, Nat.reduceAdd, resultsA, results1, Int.reduceNeg, splice, Nat.reduceLeDiff, part, fillA, fillE, Nat.reduceLT]; rfl, (Grow.refl _).app.app, ?_⟩
        rw [hT0]
        have : (M1 ++ g).length = B := by rw [← hB]; simp [hm1]
        rw [← this]
        exact List.getElem?_concat_length
  · refine ⟨8, by omega, by omega, ?_, by simp (maxDischargeDepth := 30) only [amL, args0, Nat.reduceEqDiff, reduceCtorEq, ↓reduceIte, Nat.reduceAdd, resultsA, results1, Int.reduceNeg, splice, Nat.reduceLeDiff, part, fillA, fillE, Nat.reduceLT], by simp (maxDischargeDepth := 30) only [amL, args0, Nat.reduceEqDiff, reduceCtorEq, ↓reduceIte, Nat.reduceAdd, resultsA, results1, Int.reduceNeg, splice, Nat.reduceLeDiff, part, fillA, fillE, Nat.reduceLT]; rfl, by simp (maxDischargeDepth := 30) only [amL, args0, Nat.reduceEqDiff, reduceCtorEq, ↓reduceIte, Nat.reduceAdd, resultsA, results1, Int.reduceNeg, splice, Nat.reduceLeDiff, part, fillA, fillE, Nat.reduceLT], rfl⟩
    omega
end Go.AM.G.E


set_option maxRecDepth 100000
namespace Go.AM.G.E
open Go Go.AM Go.AM.G
def needL (l : List Slot) (key : Int) : Bool := !(findL l key).2 && (decide (l.length = 0) || ((l[(findL l key).1]?).any (fun s => decide (s.st = 0)) && decide (4 * ((cnt 0 l : Int) - 1) < l.length)))
def putL (l : List Slot) (key val : Int) : List Slot × Int :=
  if validB l = true then
    if key = 0 then (l, 7) else
    if needL l key = true then (if sizeL (cnt 1 l) ≤ 64 then (layL (anewL l) key val, 0) else (l, 6)) else (layL l key val, 0)
  else ([], 2)
theorem cnt_add {l : List Slot} : cnt 0 l + cnt 1 l ≤ l.length := by
  induction l with
  | nil => simp [cnt]
  | cons a l ih =>
    simp only [cnt, List.countP_cons, List.length_cons, decide_eq_true_eq] at ih ⊢
    split <;> split <;> omega
theorem anewL_spec {l : List Slot} (h : sizeL (cnt 1 l) ≤ 64) : (anewL l).length = sizeL (cnt 1 l) ∧ Pow (anewL l).length ∧ 0 < cnt 0 (anewL l) := by
  have hsc := sizeL_cases (cnt 1 l)
  have key : ∀ (k : List Slot) (t : List Slot), (k.foldl (fun t s => if s.st = 1 then layL t s.key s.val else t) t).length = t.length ∧ cnt 0 t ≤ cnt 0 (k.foldl (fun t s => if s.st = 1 then layL t s.key s.val else t) t) + cnt 1 k := by
    intro k
    induction k with
    | nil => intro t; simp [cnt]
    | cons a k ih =>
      intro t
      simp only [List.foldl_cons]
      obtain ⟨h1, h2⟩ := ih (if a.st = 1 then layL t a.key a.val else t)
      rw [h1]
      have e : cnt 1 (a :: k) = cnt 1 k + (if a.st = 1 then 1 else 0) := by simp [cnt, List.countP_cons]
      rw [e]
      split
      · rename_i hs
        rw [if_pos hs] at h2
        have := cnt_set (l := t) (i := (findL t a.key).1) (s := ⟨1, a.key, a.val⟩) (st := 0)
        refine ⟨layL_length, ?_⟩
        unfold layL at h2 ⊢
        omega
      · rename_i hs
        rw [if_neg hs] at h2
        exact ⟨rfl, by omega⟩
  obtain ⟨h1, h2⟩ := key l (List.replicate (sizeL (cnt 1 l)) zeroS)
  have h3 : cnt 0 (List.replicate (sizeL (cnt 1 l)) zeroS) = sizeL (cnt 1 l) := by simp [cnt, zeroS, List.countP_replicate]
  rw [List.length_replicate] at h1
  rw [h3] at h2
  refine ⟨h1, ?_, ?_⟩
  · have : (anewL l).length = sizeL (cnt 1 l) := h1
    rw [this]
    unfold Pow
    omega
  · show 0 < cnt 0 (anewL l)
    unfold anewL
    omega
/-- the end of Put: the key is laid, the table told. -/
theorem put_tail {fr : Frame} {m M : Mem} {bt R b cap : Nat} {ex : Bool} {t : List Slot} {key val : Int} (f9 : fr 9 = .ptr bt 0 0) (f6 : fr 6 = .ptr R 0 0) (hbt : M[bt]? = some (.cells true [[.slice b 0 t.length cap ex 3]])) (hb : M[b]? = some (.cells true (encs t))) (hR : M[R]? = some (.cells true [[.nils]])) (hmR : m.length ≤ R) (hRb : R < b) (hg : Grow m M) (hpow : Pow t.length) (hf : 0 < cnt 0 t) (hbb : b ≠ bt) :
    C S n_ephem_table_lay [.ptr bt 0 0, .int .u64 key, .int .u64 val] M (aft S 0 [] fr (some 79) (nrm (andThen S (.seq (.region [⟨(some 80), none, (.mv (.t 9)), none, []⟩, ⟨(some 81), none, (.nilck (.t 80)), none, []⟩, ⟨(some 82), none, (.fieldAddr 0 (.t 81)), none, []⟩, ⟨(some 83), none, (.load (some 1) (.t 82)), none, []⟩, ⟨none, none, (.store 1 (.t 6) (.t 83)), none, []⟩, ⟨(some 7), none, (.mv (.c (.int .i64 0))), none, []⟩]) .ret) (bodyQ [.cell 6 (some 1), .t 7] (fun r m' => ∃ v', r = .tup [.agg [v'], .int .i64 0] ∧ Grow m m' ∧ Fresh m.length m' v' 3 (encs (layL t key val))))))) := by
  have hlt := (List.getElem?_eq_some_iff.1 hb).1
  refine (lay_spec key val (load_at0 hbt) rfl hb hpow hf).mono ?_
  rintro _ _ ⟨g, rfl⟩
  have e1 : (M.set b (Blk.cells true (encs (layL t key val))) ++ g)[bt]? = some (.cells true [[.slice b 0 t.length cap ex 3]]) := getElem?_grow (by rw [List.getElem?_set_ne hbb]; exact hbt)
  have e2 : (M.set b (Blk.cells true (encs (layL t key val))) ++ g)[R]? = some (.cells true [[.nils]]) := getElem?_grow (by rw [List.getElem?_set_ne (by omega)]; exact hR)
  have e3 : (M.set b (Blk.cells true (encs (layL t key val))) ++ g)[b]? = some (.cells true (encs (layL t key val))) := getElem?_grow (List.getElem?_set_self hlt)
  have hg1 : Grow m (M.set b (Blk.cells true (encs (layL t key val))) ++ g) := (hg.set (by omega) _).app
  generalize M.set b (Blk.cells true (encs (layL t key val))) ++ g = M1 at e1 e2 e3 hg1
  have l1 := fun k => load_at0 (k := k) (j := 0) e1
  have s1 := store_at0 (x := .agg [.slice b 0 t.length cap ex 3]) (j := 0) (n := 1) e2 rfl (by simp) rfl
  have hRl := (List.getElem?_eq_some_iff.1 e2).1
  have l2 := fun k => load_set0 (M := M1) (b := R) (own := true) (el := [.slice b 0 t.length cap ex 3]) (k := k) (j := 0) hRl
  simp only [cells_agg, splice, List.take_zero, List.nil_append, List.cons_append, List.length_cons, List.length_nil, Nat.zero_add, List.drop_succ_cons, List.drop_nil] at s1
  simp (maxDischargeDepth := 30) only [aft_mk, f9, f6, l1, s1, l2, amL, args0, Nat.reduceEqDiff, reduceCtorEq, ↓reduceIte, Nat.reduceAdd, resultsA, results1, Int.reduceNeg, splice, Nat.reduceLeDiff, part, fillA, fillE, Nat.reduceLT]
  refine ⟨_, rfl, hg1.set hmR _, Fresh.mk (.inr ⟨b, cap, ex, by omega, ?_, ?_⟩)⟩
  · simp [layL_length]
  · rw [List.getElem?_set_ne (by omega)]
    exact e3
theorem Put_spec {m : Mem} {v : V} {l : List Slot} (key val : Int) (hv : Sl m v 3 (encs l)) (hl : l.length < 5864062014806) : C S n_ephem_Put [.agg [v], .int .u64 key, .int .u64 val] m (fun r m' => ∃ v', r = .tup [.agg [v'], .int .i64 (putL l key val).2] ∧ Grow m m' ∧ Fresh m.length m' v' 3 (encs (putL l key val).1)) := by
  refine C_body rfl rfl rfl ?_
  unfold ephem_Put
  have hcell := hv.cell
  simp (maxDischargeDepth := 30) only [hcell, amL, args0, Nat.reduceEqDiff, reduceCtorEq, ↓reduceIte, Nat.reduceAdd, resultsA, results1, Int.reduceNeg, splice, Nat.reduceLeDiff, part, fillA, fillE, Nat.reduceLT]
  refine (Check_spec hv.app.app (by omega)).mono ?_
  rintro _ _ ⟨rfl, g, rfl⟩
  by_cases hval : validB l = true
  · have hvc := valid_cases hval
    simp (maxDischargeDepth := 30) only [aft_mk, hval, hcell, amL, args0, Nat.reduceEqDiff, reduceCtorEq, ↓reduceIte, Nat.reduceAdd, resultsA, results1, Int.reduceNeg, splice, Nat.reduceLeDiff, part, fillA, fillE, Nat.reduceLT]
    refine (Own_spec hv.app.app.app hl).mono ?_
    rintro _ _ ⟨u, rfl, ⟨g2, rfl⟩, hu⟩
    have huc := hu.1.cell
    simp (maxDischargeDepth := 30) only [aft_mk, huc, amL, args0, Nat.reduceEqDiff, reduceCtorEq, ↓reduceIte, Nat.reduceAdd, resultsA, results1, Int.reduceNeg, splice, Nat.reduceLeDiff, part, fillA, fillE, Nat.reduceLT]
    generalize hM : m ++ [Blk.cells true [[v]]] ++ [Blk.cells true [[V.nils]]] ++ g ++ g2 = M at hu
    generalize hR : List.length (m ++ [Blk.cells true [[v]]]) = R
    have hgM : Grow (m ++ [Blk.cells true [[v]]] ++ [Blk.cells true [[V.nils]]]) M := by rw [← hM]; exact (Grow.refl _).app.app
    have hg0 : Grow m M := by rw [← hM]; exact (Grow.refl _).app.app.app.app
    have hRM : M[R]? = some (.cells true [[.nils]]) := hgM.get (by rw [← hR]; simp)
    have hmR : m.length ≤ R := by rw [← hR]; simp
    have hRl := (List.getElem?_eq_some_iff.1 hRM).1
    have hBu : R + 1 ≤ (m ++ [Blk.cells true [[v]]] ++ [Blk.cells true [[V.nils]]] ++ g).length := by rw [← hR]; simp; omega
    have hu' := hu.weaken hBu
    clear hM hgM hu hBu
    have hlen : (encs l).length = l.length := by simp
    by_cases hk : key = 0
    · have l1 := fun k => load_at0 (M := M ++ [Blk.cells true [[u]]]) (b := M.length) (own := true) (el := [u]) (k := k) (j := 0) (by simp)
      have e2 : (M ++ [Blk.cells true [[u]]])[R]? = some (.cells true [[.nils]]) := getElem?_grow hRM
      have s1 := store_at0 (x := .agg [u]) (j := 0) (n := 1) e2 rfl (by simp) (by simp [cells_agg, huc])
      have l2 := fun k => load_set0 (M := M ++ [Blk.cells true [[u]]]) (b := R) (own := true) (el := [u]) (k := k) (j := 0) (by simp; omega)
      simp only [cells_agg, splice, List.take_zero, List.nil_append, List.cons_append, List.length_cons, List.length_nil, Nat.zero_add, List.drop_succ_cons, List.drop_nil] at s1
      simp (maxDischargeDepth := 30) only [hk, s1, l1, l2, putL, hval, amL, args0, Nat.reduceEqDiff, reduceCtorEq, ↓reduceIte, Nat.reduceAdd, resultsA, results1, Int.reduceNeg, splice, Nat.reduceLeDiff, part, fillA, fillE, Nat.reduceLT]
      refine ⟨u, rfl, hg0.app.set hmR _, ?_⟩
      refine ((hu'.app (g := [Blk.cells true [[u]]])).to (fun b x hb hx => ?_)).weaken (show m.length ≤ R + 1 by omega)
      rw [List.getElem?_set_ne (by omega)]
      exact hx
    have hne : ¬ key = 0 := hk
    simp (maxDischargeDepth := 30) only [hk, hu'.1.len, hlen, amL, args0, Nat.reduceEqDiff, reduceCtorEq, ↓reduceIte, Nat.reduceAdd, resultsA, results1, Int.reduceNeg, splice, Nat.reduceLeDiff, part, fillA, fillE, Nat.reduceLT]
    refine (find_spec (v := u) (l := l) key (by simp (maxDischargeDepth := 30) only [amL, args0, Nat.reduceEqDiff, reduceCtorEq, ↓reduceIte, Nat.reduceAdd, resultsA, results1, Int.reduceNeg, splice, Nat.reduceLeDiff, part, fillA, fillE, Nat.reduceLT]) rfl hu'.1.app hvc).mono ?_
    rintro _ _ ⟨rfl, g3, rfl⟩
    have hu3 : Fresh (R + 1) (M ++ [Blk.cells true [[u]]] ++ g3) u 3 (encs l) := hu'.app.app
    have hbt3 : (M ++ [Blk.cells true [[u]]] ++ g3)[M.length]? = some (.cells true [[u]]) := getElem?_grow (by simp)
    have hR3 : (M ++ [Blk.cells true [[u]]] ++ g3)[R]? = some (.cells true [[.nils]]) := getElem?_grow (getElem?_grow hRM)
    have hg3 : Grow m (M ++ [Blk.cells true [[u]]] ++ g3) := hg0.app.app
    generalize M ++ [Blk.cells true [[u]]] ++ g3 = M3 at hu3 hbt3 hR3 hg3
    generalize hbt : M.length = bt at hbt3
    have hRbt : R < bt := by omega
    -- a table that is not empty, laid in place
    have inplace : ∀ (fr : Frame) (M4 : Mem), Grow M3 M4 → l.length ≠ 0 → fr 9 = .ptr bt 0 0 → fr 6 = .ptr R 0 0 → putL l key val = (layL l key val, 0) → C S n_ephem_table_lay [.ptr bt 0 0, .int .u64 key, .int .u64 val] M4 (aft S 0 [] fr (some 79) (nrm (andThen S (.seq (.region [⟨(some 80), none, (.mv (.t 9)), none, []⟩, ⟨(some 81), none, (.nilck (.t 80)), none, []⟩, ⟨(some 82), none, (.fieldAddr 0 (.t 81)), none, []⟩, ⟨(some 83), none, (.load (some 1) (.t 82)), none, []⟩, ⟨none, none, (.store 1 (.t 6) (.t 83)), none, []⟩, ⟨(some 7), none, (.mv (.c (.int .i64 0))), none, []⟩]) .ret) (bodyQ [.cell 6 (some 1), .t 7] (fun r m' => ∃ v', r = .tup [.agg [v'], .int .i64 (putL l key val).2] ∧ Grow m m' ∧ Fresh m.length m' v' 3 (encs (putL l key val).1)))))) := by
      intro fr M4 hg4 hn0 f9 f6 hput
      rw [hput]
      obtain ⟨hpow, hfree⟩ := hvc.resolve_left hn0
      rcases hu3.cases with ⟨_, h0⟩ | ⟨b, cap, ex, hb1, rfl, hb3⟩
      · rw [← hlen, h0] at hn0; exact absurd rfl hn0
      · refine put_tail (b := b) (cap := cap) (ex := ex) (t := l) f9 f6 (by rw [← hlen]; exact hg4.get hbt3) (hg4.get hb3) (hg4.get hR3) hmR (by omega) (hg3.trans hg4) hpow hfree ?_
        rintro rfl
        rw [hbt3] at hb3
        have := congrArg (fun x : Option Blk => match x with | some (.cells _ els) => els | _ => []) hb3
        simp only at this
        have h3 : ∀ el ∈ [[V.slice b 0 (encs l).length cap ex 3]], el.length = 3 := by rw [this]; exact encs_z
        have := h3 _ (List.mem_singleton.2 rfl)
        simp at this
    -- a new table
    have anew : ∀ (fr : Frame) (M4 : Mem), Grow M3 M4 → fr 1 = .int .u64 key → fr 2 = .int .u64 val → fr 67 = .bool true → fr 9 = .ptr bt 0 0 → fr 6 = .ptr R 0 0 → needL l key = true → C S n_ephem_table_anew [.ptr bt 0 0] M4 (aft S 0 [⟨(some 70), (some (67, true)), (.un .not (.t 69)), none, []⟩, ⟨(some 71), none, (.pick (.t 67) (.t 70) (.c (.bool false))), none, []⟩] fr (some 69) (nrm (andThen S (.cond (.t 71) (.seq (.region [⟨(some 72), none, (.mv (.t 9)), none, []⟩, ⟨(some 73), none, (.nilck (.t 72)), none, []⟩, ⟨(some 74), none, (.fieldAddr 0 (.t 73)), none, []⟩, ⟨(some 75), none, (.load (some 1) (.t 74)), none, []⟩, ⟨none, none, (.store 1 (.t 6) (.t 75)), none, []⟩, ⟨(some 7), none, (.mv (.c (.int .i64 6))), none, []⟩]) .ret) .skip) (andThen S (.seq (.region [⟨(some 76), none, (.mv (.t 9)), none, []⟩, ⟨(some 77), none, (.mv (.t 1)), none, []⟩, ⟨(some 78), none, (.mv (.t 2)), none, []⟩, ⟨(some 79), none, (.call (.c (.fn n_ephem_table_lay [] [])) [(.t 76), (.t 77), (.t 78)]), none, []⟩]) (.seq (.region [⟨(some 80), none, (.mv (.t 9)), none, []⟩, ⟨(some 81), none, (.nilck (.t 80)), none, []⟩, ⟨(some 82), none, (.fieldAddr 0 (.t 81)), none, []⟩, ⟨(some 83), none, (.load (some 1) (.t 82)), none, []⟩, ⟨none, none, (.store 1 (.t 6) (.t 83)), none, []⟩, ⟨(some 7), none, (.mv (.c (.int .i64 0))), none, []⟩]) .ret)) (bodyQ [.cell 6 (some 1), .t 7] (fun r m' => ∃ v', r = .tup [.agg [v'], .int .i64 (putL l key val).2] ∧ Grow m m' ∧ Fresh m.length m' v' 3 (encs (putL l key val).1))))))) := by
      intro fr M4 hg4 f1 f2 f67 f9 f6 hnd
      have hn64 : l.length ≤ 64 := by
        rcases hvc with h | ⟨h, _⟩
        · omega
        · have := h.le; omega
      have hca := cnt_add (l := l)
      have hu63 : cnt 1 l ≤ 63 := by rcases hvc with h | ⟨_, h⟩ <;> omega
      have hbt4 := hg4.get hbt3
      have hR4 := hg4.get hR3
      refine (anew_spec hbt4 (hu3.1.grow hg4) hn64 hu63).mono ?_
      rintro _ M5 ⟨rfl, h5⟩
      by_cases hsz : sizeL (cnt 1 l) ≤ 64
      · rw [if_pos hsz] at h5
        obtain ⟨b, cap, ex, hb4, hg5, hb5⟩ := h5
        obtain ⟨_, hpw, hfr⟩ := anewL_spec hsz
        have hput : putL l key val = (layL (anewL l) key val, 0) := by simp [putL, hval, hne, hnd, hsz]
        have hbtl := (List.getElem?_eq_some_iff.1 hbt4).1
        have hRl4 := (List.getElem?_eq_some_iff.1 hR4).1
        simp (maxDischargeDepth := 30) only [aft_mk, f1, f2, f67, f9, f6, hsz, amL, args0, Nat.reduceEqDiff, reduceCtorEq, ↓reduceIte, Nat.reduceAdd, resultsA, results1, Int.reduceNeg, splice, Nat.reduceLeDiff, part, fillA, fillE, Nat.reduceLT]
        rw [hput]
        refine put_tail (b := b) (cap := cap) (ex := ex) (t := anewL l) (by simp (maxDischargeDepth := 30) only [f9, amL, args0, Nat.reduceEqDiff, reduceCtorEq, ↓reduceIte, Nat.reduceAdd, resultsA, results1, Int.reduceNeg, splice, Nat.reduceLeDiff, part, fillA, fillE, Nat.reduceLT]) (by simp (maxDischargeDepth := 30) only [f6, amL, args0, Nat.reduceEqDiff, reduceCtorEq, ↓reduceIte, Nat.reduceAdd, resultsA, results1, Int.reduceNeg, splice, Nat.reduceLeDiff, part, fillA, fillE, Nat.reduceLT]) (hg5.get (List.getElem?_set_self hbtl)) hb5 (hg5.get (by rw [List.getElem?_set_ne (by omega)]; exact hR4)) hmR (by omega) ?_ hpw hfr (by omega)
        refine Grow.trans ?_ hg5
        exact (hg3.trans hg4).set (by omega) _
      · rw [if_neg hsz] at h5
        have hput : putL l key val = (l, 6) := by simp [putL, hval, hne, hnd, hsz]
        have hbt5 := h5.get hbt4
        have hR5 := h5.get hR4
        have hu5 := (hu3.grow hg4).grow h5
        have hRl5 := (List.getElem?_eq_some_iff.1 hR5).1
        have l1 := fun k => load_at0 (k := k) (j := 0) hbt5
        have s1 := store_at0 (x := .agg [u]) (j := 0) (n := 1) hR5 rfl (by simp) (by simp [cells_agg, huc])
        have l2 := fun k => load_set0 (M := M5) (b := R) (own := true) (el := [u]) (k := k) (j := 0) hRl5
        simp only [cells_agg, splice, List.take_zero, List.nil_append, List.cons_append, List.length_cons, List.length_nil, Nat.zero_add, List.drop_succ_cons, List.drop_nil] at s1
        simp (maxDischargeDepth := 30) only [aft_mk, f67, f9, f6, hsz, l1, s1, l2, amL, args0, Nat.reduceEqDiff, reduceCtorEq, ↓reduceIte, Nat.reduceAdd, resultsA, results1, Int.reduceNeg, splice, Nat.reduceLeDiff, part, fillA, fillE, Nat.reduceLT]
        rw [hput]
        refine ⟨u, rfl, ((hg3.trans hg4).trans h5).set hmR _, ?_⟩
        refine (hu5.to (fun b x hb hx => ?_)).weaken (show m.length ≤ R + 1 by omega)
        rw [List.getElem?_set_ne (by omega)]
        exact hx
    by_cases hf : (findL l key).2 = true
    · have hn0 : l.length ≠ 0 := by intro h; simp [findL, h] at hf
      have hput : putL l key val = (layL l key val, 0) := by simp [putL, hval, hne, needL, hf]
      simp (maxDischargeDepth := 30) only [aft_mk, hf, amL, args0, Nat.reduceEqDiff, reduceCtorEq, ↓reduceIte, Nat.reduceAdd, resultsA, results1, Int.reduceNeg, splice, Nat.reduceLeDiff, part, fillA, fillE, Nat.reduceLT]
      exact inplace _ M3 (Grow.refl _) hn0 (by simp (maxDischargeDepth := 30) only [amL, args0, Nat.reduceEqDiff, reduceCtorEq, ↓reduceIte, Nat.reduceAdd, resultsA, results1, Int.reduceNeg, splice, Nat.reduceLeDiff, part, fillA, fillE, Nat.reduceLT]) (by simp (maxDischargeDepth := 30) only [amL, args0, Nat.reduceEqDiff, reduceCtorEq, ↓reduceIte, Nat.reduceAdd, resultsA, results1, Int.reduceNeg, splice, Nat.reduceLeDiff, part, fillA, fillE, Nat.reduceLT]) hput
    by_cases hn0 : l.length = 0
    · have hn0' : (l.length : Int) = 0 := by omega
      simp (maxDischargeDepth := 30) only [aft_mk, hf, hn0', amL, args0, Nat.reduceEqDiff, reduceCtorEq, ↓reduceIte, Nat.reduceAdd, resultsA, results1, Int.reduceNeg, splice, Nat.reduceLeDiff, part, fillA, fillE, Nat.reduceLT]
      exact anew _ M3 (Grow.refl _) (by simp (maxDischargeDepth := 30) only [amL, args0, Nat.reduceEqDiff, reduceCtorEq, ↓reduceIte, Nat.reduceAdd, resultsA, results1, Int.reduceNeg, splice, Nat.reduceLeDiff, part, fillA, fillE, Nat.reduceLT]) (by simp (maxDischargeDepth := 30) only [amL, args0, Nat.reduceEqDiff, reduceCtorEq, ↓reduceIte, Nat.reduceAdd, resultsA, results1, Int.reduceNeg, splice, Nat.reduceLeDiff, part, fillA, fillE, Nat.reduceLT]) (by simp (maxDischargeDepth := 30) only [amL, args0, Nat.reduceEqDiff, reduceCtorEq, ↓reduceIte, Nat.reduceAdd, resultsA, results1, Int.reduceNeg, splice, Nat.reduceLeDiff, part, fillA, fillE, Nat.reduceLT]) (by simp (maxDischargeDepth := 30) only [amL, args0, Nat.reduceEqDiff, reduceCtorEq, ↓reduceIte, Nat.reduceAdd, resultsA, results1, Int.reduceNeg, splice, Nat.reduceLeDiff, part, fillA, fillE, Nat.reduceLT]) (by simp (maxDischargeDepth := 30) only [amL, args0, Nat.reduceEqDiff, reduceCtorEq, ↓reduceIte, Nat.reduceAdd, resultsA, results1, Int.reduceNeg, splice, Nat.reduceLeDiff, part, fillA, fillE, Nat.reduceLT]) (by simp [needL, hf, hn0])
    have hn0' : ¬ (l.length : Int) = 0 := by omega
    obtain ⟨hpow, hfree⟩ := hvc.resolve_left hn0
    obtain ⟨hi, _⟩ := findL_spec (key := key) hpow
    obtain ⟨s, hs⟩ : ∃ s, l[(findL l key).1]? = some s := ⟨_, List.getElem?_eq_getElem hi⟩
    have ix := hu3.1.index (ki := .i64) (n := (findL l key).1) (by omega) (by omega)
    have ld := fun o k => hu3.1.load (o := o) (k := k) (encs_get hs)
    simp only [Int.toNat_natCast, enc] at ix ld
    have l1 := fun k => load_at0 (k := k) (j := 0) hbt3
    by_cases hst : s.st = 0
    · simp (maxDischargeDepth := 30) only [aft_mk, hf, hn0', l1, ix, ld, hst, amL, args0, Nat.reduceEqDiff, reduceCtorEq, ↓reduceIte, Nat.reduceAdd, resultsA, results1, Int.reduceNeg, splice, Nat.reduceLeDiff, part, fillA, fillE, Nat.reduceLT]
      refine (many_spec (v := u) (l := l) 0 (by rw [load_at0 hbt3]; rfl) rfl hu3.1 (by omega)).mono ?_
      rintro _ _ ⟨rfl, g4, rfl⟩
      have hcl := cnt_le 0 l
      have hpl := hpow.le
      have w1 : IntKind.i64.wrap ((cnt 0 l : Int) - 1) = (cnt 0 l : Int) - 1 := by rw [wrap_i64] <;> omega
      have w2 : IntKind.i64.wrap (4 * ((cnt 0 l : Int) - 1)) = 4 * ((cnt 0 l : Int) - 1) := by rw [wrap_i64] <;> omega
      by_cases hfew : 4 * ((cnt 0 l : Int) - 1) < l.length
      · simp (maxDischargeDepth := 30) only [aft_mk, hf, hn0', hst, w1, w2, hfew, amL, args0, Nat.reduceEqDiff, reduceCtorEq, ↓reduceIte, Nat.reduceAdd, resultsA, results1, Int.reduceNeg, splice, Nat.reduceLeDiff, part, fillA, fillE, Nat.reduceLT]
        exact anew _ _ (Grow.refl _).app (by simp (maxDischargeDepth := 30) only [amL, args0, Nat.reduceEqDiff, reduceCtorEq, ↓reduceIte, Nat.reduceAdd, resultsA, results1, Int.reduceNeg, splice, Nat.reduceLeDiff, part, fillA, fillE, Nat.reduceLT]) (by simp (maxDischargeDepth := 30) only [amL, args0, Nat.reduceEqDiff, reduceCtorEq, ↓reduceIte, Nat.reduceAdd, resultsA, results1, Int.reduceNeg, splice, Nat.reduceLeDiff, part, fillA, fillE, Nat.reduceLT]) (by simp (maxDischargeDepth := 30) only [amL, args0, Nat.reduceEqDiff, reduceCtorEq, ↓reduceIte, Nat.reduceAdd, resultsA, results1, Int.reduceNeg, splice, Nat.reduceLeDiff, part, fillA, fillE, Nat.reduceLT]) (by simp (maxDischargeDepth := 30) only [amL, args0, Nat.reduceEqDiff, reduceCtorEq, ↓reduceIte, Nat.reduceAdd, resultsA, results1, Int.reduceNeg, splice, Nat.reduceLeDiff, part, fillA, fillE, Nat.reduceLT]) (by simp (maxDischargeDepth := 30) only [amL, args0, Nat.reduceEqDiff, reduceCtorEq, ↓reduceIte, Nat.reduceAdd, resultsA, results1, Int.reduceNeg, splice, Nat.reduceLeDiff, part, fillA, fillE, Nat.reduceLT]) (by simp [needL, hf, hs, hst, hfew])
      · simp (maxDischargeDepth := 30) only [aft_mk, hf, hn0', hst, w1, w2, hfew, amL, args0, Nat.reduceEqDiff, reduceCtorEq, ↓reduceIte, Nat.reduceAdd, resultsA, results1, Int.reduceNeg, splice, Nat.reduceLeDiff, part, fillA, fillE, Nat.reduceLT]
        exact inplace _ _ (Grow.refl _).app hn0 (by simp (maxDischargeDepth := 30) only [amL, args0, Nat.reduceEqDiff, reduceCtorEq, ↓reduceIte, Nat.reduceAdd, resultsA, results1, Int.reduceNeg, splice, Nat.reduceLeDiff, part, fillA, fillE, Nat.reduceLT]) (by simp (maxDischargeDepth := 30) only [amL, args0, Nat.reduceEqDiff, reduceCtorEq, ↓reduceIte, Nat.reduceAdd, resultsA, results1, Int.reduceNeg, splice, Nat.reduceLeDiff, part, fillA, fillE, Nat.reduceLT]) (by simp [putL, hval, hne, needL, hf, hn0, hs, hst, hfew])
    · simp (maxDischargeDepth := 30) only [aft_mk, hf, hn0', l1, ix, ld, hst, amL, args0, Nat.reduceEqDiff, reduceCtorEq, ↓reduceIte, Nat.reduceAdd, resultsA, results1, Int.reduceNeg, splice, Nat.reduceLeDiff, part, fillA, fillE, Nat.reduceLT]
      exact inplace _ M3 (Grow.refl _) hn0 (by simp (maxDischargeDepth := 30) only [amL, args0, Nat.reduceEqDiff, reduceCtorEq, ↓reduceIte, Nat.reduceAdd, resultsA, results1, Int.reduceNeg, splice, Nat.reduceLeDiff, part, fillA, fillE, Nat.reduceLT]) (by simp (maxDischargeDepth := 30) only [amL, args0, Nat.reduceEqDiff, reduceCtorEq, ↓reduceIte, Nat.reduceAdd, resultsA, results1, Int.reduceNeg, splice, Nat.reduceLeDiff, part, fillA, fillE, Nat.reduceLT]) (by simp [putL, hval, hne, needL, hf, hn0, hs, hst])
  · have l1 := fun k => load_set0 (M := (m ++ [Blk.cells true [[v]]] ++ [Blk.cells true [[V.nils]]] ++ g)) (b := List.length (m ++ [Blk.cells true [[v]]])) (own := true) (el := [V.nils]) (k := k) (j := 0) (by simp)
    have c : ¬ (2 : Int) = 0 := by omega
    simp (maxDischargeDepth := 30) only [aft_mk, hval, hcell, putL, c, l1, amL, args0, Nat.reduceEqDiff, reduceCtorEq, ↓reduceIte, Nat.reduceAdd, resultsA, results1, Int.reduceNeg, splice, Nat.reduceLeDiff, part, fillA, fillE, Nat.reduceLT]
    exact ⟨.nils, rfl, (Grow.refl _).app.app.app, Fresh.mk (.inl ⟨rfl, rfl⟩)⟩
end Go.AM.G.E


set_option maxRecDepth 100000
namespace Go.AM.G.E
open Go Go.AM Go.AM.G
theorem cnt_set_eq {l : List Slot} {i : Nat} {s s' : Slot} (h : l[i]? = some s) (h1 : s.st ≠ 0) (h2 : s'.st ≠ 0) : cnt 0 (l.set i s') = cnt 0 l := by
  induction l generalizing i with
  | nil => simp at h
  | cons a l ih =>
    cases i with
    | zero => simp at h; subst h; simp [cnt, List.countP_cons, h1, h2]
    | succ i => simpa [cnt, List.countP_cons] using ih (i := i) (by simpa using h)
/-! the plain law of the table -/
def hk (l : List Slot) (k : Int) : Nat := (homeI k l.length).toNat
def sl (l : List Slot) (h d : Nat) : Slot := l.getD ((h + d) % l.length) zeroS
def Q (l : List Slot) (k : Int) (h d : Nat) : Prop := ∀ e, e < d → (sl l h e).st ≠ 0 ∧ ¬ ((sl l h e).st = 1 ∧ (sl l h e).key = k)
theorem sl_get {l : List Slot} {h d : Nat} (hn : 0 < l.length) : l[(h + d) % l.length]? = some (sl l h d) := by
  have := Nat.mod_lt (h + d) hn
  simp [sl, List.getD_eq_getElem?_getD, List.getElem?_eq_getElem this]
theorem mod_cases {h e n : Nat} (hh : h < n) (he : e < n) : (h + e < n ∧ (h + e) % n = h + e) ∨ (n ≤ h + e ∧ (h + e) % n = h + e - n) := by
  by_cases c : h + e < n
  · exact .inl ⟨c, Nat.mod_eq_of_lt c⟩
  · exact .inr ⟨by omega, by rw [Nat.mod_eq_sub_mod (by omega), Nat.mod_eq_of_lt (by omega)]⟩
theorem mod_inj {h e d n : Nat} (hh : h < n) (he : e < n) (hd : d < n) (c : (h + e) % n = (h + d) % n) : e = d := by
  rcases mod_cases hh he with ⟨_, a⟩ | ⟨_, a⟩ <;> rcases mod_cases hh hd with ⟨_, b⟩ | ⟨_, b⟩ <;> omega
theorem findF_main {l : List Slot} {k : Int} {h : Nat} (hn : 0 < l.length) : ∀ {f a : Nat} {g : Option Nat}, a + f = l.length → Q l k h a → (∀ y, g = some y → ∃ e, e < a ∧ y = (h + e) % l.length ∧ (sl l h e).st = 2) →
    ((findF l k f ((h + a) % l.length) g).2 = true → ∃ d, d < l.length ∧ Q l k h d ∧ (findF l k f ((h + a) % l.length) g).1 = (h + d) % l.length ∧ (sl l h d).st = 1 ∧ (sl l h d).key = k) ∧
    ((findF l k f ((h + a) % l.length) g).2 = false → Q l k h l.length ∨ ∃ d, d < l.length ∧ Q l k h d ∧ (sl l h d).st = 0 ∧ ((findF l k f ((h + a) % l.length) g).1 = (h + d) % l.length ∨ ∃ e, e < d ∧ (findF l k f ((h + a) % l.length) g).1 = (h + e) % l.length ∧ (sl l h e).st = 2))
  | 0, a, g, ha, hq, hg => by
    simp only [findF]
    refine ⟨by simp, fun _ => .inl ?_⟩
    rw [← ha]
    exact hq
  | f + 1, a, g, ha, hq, hg => by
    have hs := sl_get (h := h) (d := a) hn
    simp only [findF, hs]
    by_cases h0 : (sl l h a).st = 0
    · rw [if_pos h0]
      refine ⟨by simp, fun _ => .inr ⟨a, by omega, hq, h0, ?_⟩⟩
      cases g with
      | none => exact .inl rfl
      | some y =>
        obtain ⟨e, e1, e2, e3⟩ := hg y rfl
        exact .inr ⟨e, e1, e2, e3⟩
    rw [if_neg h0]
    by_cases h1 : (sl l h a).st = 1 ∧ (sl l h a).key = k
    · rw [if_pos h1]
      exact ⟨fun _ => ⟨a, by omega, hq, rfl, h1.1, h1.2⟩, by simp⟩
    rw [if_neg h1]
    have e : ((h + a) % l.length + 1) % l.length = (h + (a + 1)) % l.length := by rw [Nat.mod_add_mod]; rfl
    rw [e]
    refine findF_main hn (by omega) ?_ ?_
    · intro x hx
      by_cases hxa : x = a
      · subst hxa; exact ⟨h0, h1⟩
      · exact hq x (by omega)
    · intro y hy
      split at hy
      · rename_i hc
        cases hy
        exact ⟨a, by omega, rfl, hc.1⟩
      · obtain ⟨e, e1, e2⟩ := hg y hy
        exact ⟨e, by omega, e2⟩
theorem hk_lt {l : List Slot} {k : Int} (hp : Pow l.length) : hk l k < l.length := by
  have := hp.le
  obtain ⟨h0, h1⟩ := home_range (key := k) hp
  unfold hk
  omega
theorem findL_eq {l : List Slot} {k : Int} (hp : Pow l.length) : findL l k = findF l k l.length ((hk l k + 0) % l.length) none := by
  have := hp.le
  have h1 := hk_lt (k := k) hp
  unfold findL
  rw [if_neg (by omega), Nat.add_zero, Nat.mod_eq_of_lt h1]
  rfl
theorem no_free {l : List Slot} {k : Int} {h : Nat} (hh : h < l.length) (h0 : 0 < cnt 0 l) : ¬ Q l k h l.length := by
  intro hq
  obtain ⟨j, s, hj, hs⟩ := exists_free h0
  obtain ⟨hjl, e⟩ := List.getElem?_eq_some_iff.1 hj
  have hx : (h + (j + l.length - h) % l.length) % l.length = j := by
    rw [Nat.add_mod_mod]
    have : h + (j + l.length - h) = j + l.length := by omega
    rw [this, Nat.add_mod_right, Nat.mod_eq_of_lt hjl]
  have h2 := hq ((j + l.length - h) % l.length) (Nat.mod_lt _ (by omega))
  have h3 := sl_get (h := h) (d := (j + l.length - h) % l.length) (l := l) (by omega)
  rw [hx, hj] at h3
  cases h3
  exact h2.1 hs
theorem find_true {l : List Slot} {k : Int} (hp : Pow l.length) (h : (findL l k).2 = true) : ∃ d, d < l.length ∧ Q l k (hk l k) d ∧ (findL l k).1 = (hk l k + d) % l.length ∧ (sl l (hk l k) d).st = 1 ∧ (sl l (hk l k) d).key = k := by
  have hle := hp.le
  rw [findL_eq hp] at h ⊢
  exact (findF_main (by omega) (by omega) (fun e he => absurd he (Nat.not_lt_zero _)) (by simp)).1 h
theorem find_false {l : List Slot} {k : Int} (hp : Pow l.length) (h0 : 0 < cnt 0 l) (h : (findL l k).2 = false) : ∃ d, d < l.length ∧ Q l k (hk l k) d ∧ (sl l (hk l k) d).st = 0 ∧ ((findL l k).1 = (hk l k + d) % l.length ∨ ∃ e, e < d ∧ (findL l k).1 = (hk l k + e) % l.length ∧ (sl l (hk l k) e).st = 2) := by
  have hle := hp.le
  rw [findL_eq hp] at h ⊢
  exact ((findF_main (by omega) (by omega) (fun e he => absurd he (Nat.not_lt_zero _)) (by simp)).2 h).resolve_left (no_free (hk_lt hp) h0)
theorem find_at {l : List Slot} {k : Int} {d : Nat} (hp : Pow l.length) (h0 : 0 < cnt 0 l) (hd : d < l.length) (hq : Q l k (hk l k) d) (h1 : (sl l (hk l k) d).st = 1) (h2 : (sl l (hk l k) d).key = k) : findL l k = ((hk l k + d) % l.length, true) := by
  cases h : (findL l k).2 with
  | true =>
    obtain ⟨d', a1, a2, a3, a4, a5⟩ := find_true hp h
    have : d' = d := by
      rcases Nat.lt_trichotomy d' d with c | c | c
      · exact absurd ⟨a4, a5⟩ (hq d' c).2
      · exact c
      · exact absurd ⟨h1, h2⟩ (a2 d c).2
    subst this
    rw [← a3, ← h]
  | false =>
    obtain ⟨d', a1, a2, a3, _⟩ := find_false hp h0 h
    rcases Nat.lt_trichotomy d' d with c | c | c
    · exact absurd a3 (hq d' c).1
    · subst c; omega
    · exact absurd ⟨h1, h2⟩ (a2 d c).2
/-- a table at work: each used slot is found. -/
structure okT (l : List Slot) : Prop where
  pow : Pow l.length
  free : 0 < cnt 0 l
  ok : ∀ i s, l[i]? = some s → okS l i s = true
theorem okFrom_iff {l r : List Slot} : ∀ {i : Nat}, okFrom l i r = true ↔ ∀ j s, r[j]? = some s → okS l (i + j) s = true := by
  induction r with
  | nil => intro i; simp [okFrom]
  | cons a r ih =>
    intro i
    simp only [okFrom, Bool.and_eq_true, ih]
    constructor
    · rintro ⟨h1, h2⟩ j s hj
      cases j with
      | zero => simp at hj; subst hj; exact h1
      | succ j => have := h2 j s (by simpa using hj); rwa [show i + 1 + j = i + (j + 1) by omega] at this
    · intro h
      refine ⟨h 0 a rfl, fun j s hj => ?_⟩
      have := h (j + 1) s (by simpa using hj)
      rwa [show i + (j + 1) = i + 1 + j by omega] at this
theorem valid_iff {l : List Slot} : validB l = true ↔ l.length = 0 ∨ okT l ∧ l.length ≤ 4 * cnt 0 l := by
  simp only [validB, Bool.or_eq_true, Bool.and_eq_true, decide_eq_true_eq, okFrom_iff, Nat.zero_add]
  constructor
  · rintro (h | ⟨h1, h2, h3⟩)
    · exact .inl h
    · have := h1.le
      exact .inr ⟨⟨h1, by omega, h3⟩, h2⟩
  · rintro (h | ⟨h1, h2⟩)
    · exact .inl h
    · exact .inr ⟨h1.pow, h2, h1.ok⟩
/-- a key has a value. -/
def Has (l : List Slot) (k v : Int) : Prop := ∃ (j : Nat) (s : Slot), l[j]? = some s ∧ s.st = 1 ∧ s.key = k ∧ s.val = v
theorem okT.find {l : List Slot} (h : okT l) {j : Nat} {s : Slot} (hj : l[j]? = some s) (h1 : s.st = 1) : findL l s.key = (j, true) ∧ s.key ≠ 0 := by
  have := h.ok j s hj
  simp only [okS, h1, if_true, Bool.and_eq_true, decide_eq_true_eq] at this
  exact ⟨this.2.2, this.2.1⟩
theorem okT.uniq {l : List Slot} (h : okT l) {j j' : Nat} {s s' : Slot} (hj : l[j]? = some s) (h1 : s.st = 1) (hj' : l[j']? = some s') (h1' : s'.st = 1) (hk : s.key = s'.key) : j = j' := by
  have a := (h.find hj h1).1
  have b := (h.find hj' h1').1
  rw [hk, b] at a
  simpa using a.symm
theorem okT.found {l : List Slot} (h : okT l) {k : Int} (hf : (findL l k).2 = true) : ∃ s, l[(findL l k).1]? = some s ∧ s.st = 1 ∧ s.key = k := (findL_spec h.pow).2 hf
theorem okT.found_iff {l : List Slot} (h : okT l) {k : Int} : (findL l k).2 = true ↔ ∃ v, Has l k v := by
  constructor
  · intro hf
    obtain ⟨s, a, b, c⟩ := h.found hf
    exact ⟨_, _, s, a, b, c, rfl⟩
  · rintro ⟨v, j, s, a, b, rfl, _⟩
    rw [(h.find a b).1]
theorem set_sl {l : List Slot} {i h d : Nat} {x : Slot} (hn : 0 < l.length) : sl (l.set i x) h d = if (h + d) % l.length = i then x else sl l h d := by
  have hm := Nat.mod_lt (h + d) hn
  unfold sl
  simp only [List.length_set, List.getD_eq_getElem?_getD, List.getElem?_set]
  split
  · rename_i e
    subst e
    simp [hm]
  · rename_i e
    rw [if_neg (fun c => e c.symm)]
/-- what a slot's change keeps: no slot gets free, none of another key goes. -/
theorem okT.set {l : List Slot} (h : okT l) {i : Nat} {x : Slot} (hi : i < l.length) (h0 : x.st ≠ 0) (hfree : 0 < cnt 0 (l.set i x))
    (hold : ∀ s, l[i]? = some s → s.st = 1 → x.st ≠ 1 ∨ s.key = x.key) (hx : okS (l.set i x) i x = true) (hxk : x.st = 1 → ∀ j s, l[j]? = some s → s.st = 1 → s.key = x.key → j = i) : okT (l.set i x) := by
  have hn : 0 < l.length := by omega
  have hlen : (l.set i x).length = l.length := List.length_set
  refine ⟨by rw [hlen]; exact h.pow, hfree, fun j s hj => ?_⟩
  by_cases hji : j = i
  · subst hji
    rw [List.getElem?_set_self hi] at hj
    cases hj
    exact hx
  rw [List.getElem?_set_ne (Ne.symm hji)] at hj
  have hok := h.ok j s hj
  by_cases h1 : s.st = 1
  · obtain ⟨hf, hk0⟩ := h.find hj h1
    obtain ⟨d, d1, d2, d3, d4, d5⟩ := find_true h.pow (k := s.key) (by rw [hf])
    rw [hf] at d3
    have hkk : hk (l.set i x) s.key = hk l s.key := by unfold hk; rw [hlen]
    have hp' : Pow (l.set i x).length := by rw [hlen]; exact h.pow
    have hfd : findL (l.set i x) s.key = ((hk (l.set i x) s.key + d) % (l.set i x).length, true) := by
      refine find_at hp' hfree (by omega) ?_ ?_ ?_
      · intro e he
        rw [hkk, set_sl hn]
        split
        · refine ⟨h0, fun c => ?_⟩
          exact hji (hxk c.1 j s hj h1 c.2.symm)
        · exact d2 e he
      · rw [hkk, set_sl hn, if_neg (by rw [← d3]; exact hji)]; exact d4
      · rw [hkk, set_sl hn, if_neg (by rw [← d3]; exact hji)]; exact d5
    rw [hkk, hlen, ← d3] at hfd
    simp only [okS, h1, hfd] at hok ⊢
    exact hok.trans rfl |> fun _ => by simpa using hk0
  · simpa [okS, h1] using hok
theorem cnt0_set {l : List Slot} {i : Nat} {x s : Slot} (hs : l[i]? = some s) (h0 : x.st ≠ 0) : cnt 0 (l.set i x) + (if s.st = 0 then 1 else 0) = cnt 0 l := by
  induction l generalizing i with
  | nil => simp at hs
  | cons a l ih =>
    cases i with
    | zero => simp at hs; subst hs; simp [cnt, List.countP_cons, h0]
    | succ i =>
      have := ih (i := i) (by simpa using hs)
      simp only [cnt, List.set_cons_succ, List.countP_cons] at this ⊢
      omega
/-- a key is laid. -/
theorem okT.lay {l : List Slot} (h : okT l) {k v : Int} (hk0 : k ≠ 0) (hfree : 0 < cnt 0 (layL l k v)) : okT (layL l k v) := by
  obtain ⟨hi, hfs⟩ := findL_spec (key := k) h.pow
  have hn : 0 < l.length := by omega
  have hlen : (layL l k v).length = l.length := layL_length
  have hp' : Pow (layL l k v).length := by rw [hlen]; exact h.pow
  have hkk : hk (layL l k v) k = hk l k := by unfold hk; rw [hlen]
  have hfx : ∀ d, d < l.length → Q l k (hk l k) d → (findL l k).1 = (hk l k + d) % l.length → findL (layL l k v) k = ((findL l k).1, true) := by
    intro d hd hq he
    have : findL (layL l k v) k = ((hk (layL l k v) k + d) % (layL l k v).length, true) := by
      refine find_at hp' hfree (by omega) ?_ ?_ ?_
      · intro e hed
        unfold layL
        rw [set_sl hn]
        unfold layL at hkk
        rw [hkk, if_neg]
        · exact hq e hed
        · rw [he]
          intro c
          have := mod_inj (hk_lt (k := k) h.pow) (show e < l.length by omega) hd c
          omega
      · rw [hkk]; unfold layL; rw [set_sl hn, if_pos he.symm]
      · rw [hkk]; unfold layL; rw [set_sl hn, if_pos he.symm]
    rw [this, hkk, hlen, ← he]
  have hnew : findL (layL l k v) k = ((findL l k).1, true) := by
    cases hf : (findL l k).2 with
    | true =>
      obtain ⟨d, d1, d2, d3, _⟩ := find_true h.pow hf
      exact hfx d d1 d2 d3
    | false =>
      obtain ⟨d, d1, d2, d3, d4 | ⟨e, e1, e2, e3⟩⟩ := find_false h.pow h.free hf
      · exact hfx d d1 d2 d4
      · exact hfx e (by omega) (fun x hx => d2 x (by omega)) e2
  have hu : ∀ j s, l[j]? = some s → s.st = 1 → s.key = k → j = (findL l k).1 := by
    intro j s hj h1 hk
    have := (h.find hj h1).1
    rw [hk] at this
    rw [this]
  have hst : ∀ s, l[(findL l k).1]? = some s → s.st = 1 → s.key = k := by
    intro s hs h1
    cases hf : (findL l k).2 with
    | true =>
      obtain ⟨s', a, b, c⟩ := hfs hf
      rw [a] at hs; cases hs; exact c
    | false =>
      obtain ⟨d, d1, d2, d3, d4 | ⟨e, e1, e2, e3⟩⟩ := find_false h.pow h.free hf
      · rw [d4, sl_get hn] at hs; cases hs; omega
      · rw [e2, sl_get hn] at hs; cases hs; omega
  refine h.set hi (show (1:Int) ≠ 0 by decide) hfree (fun s hs h1 => .inr (hst s hs h1)) ?_ (fun _ j s hj h1 hk => hu j s hj h1 hk)
  have hnew' : findL (l.set (findL l k).1 ⟨1, k, v⟩) k = ((findL l k).1, true) := hnew
  simp [okS, hnew', hk0]
theorem okT.lay_has {l : List Slot} (h : okT l) {k v k' v' : Int} : Has (layL l k v) k' v' ↔ if k' = k then v' = v else Has l k' v' := by
  obtain ⟨hi, hfs⟩ := findL_spec (key := k) h.pow
  have hst : ∀ s, l[(findL l k).1]? = some s → s.st = 1 → s.key = k := by
    intro s hs h1
    have hn : 0 < l.length := by omega
    cases hf : (findL l k).2 with
    | true =>
      obtain ⟨s', a, b, c⟩ := hfs hf
      rw [a] at hs; cases hs; exact c
    | false =>
      obtain ⟨d, d1, d2, d3, d4 | ⟨e, e1, e2, e3⟩⟩ := find_false h.pow h.free hf
      · rw [d4, sl_get hn] at hs; cases hs; omega
      · rw [e2, sl_get hn] at hs; cases hs; omega
  constructor
  · rintro ⟨j, s, hj, h1, h2, h3⟩
    unfold layL at hj
    by_cases hji : j = (findL l k).1
    · subst hji
      rw [List.getElem?_set_self hi] at hj
      cases hj
      rw [if_pos h2.symm]
      exact h3.symm
    · rw [List.getElem?_set_ne (Ne.symm hji)] at hj
      rw [if_neg]
      · exact ⟨j, s, hj, h1, h2, h3⟩
      · intro c
        have := (h.find hj h1).1
        rw [h2, c] at this
        exact hji (by rw [this])
  · split
    · rename_i hkk
      rintro rfl
      exact ⟨_, _, List.getElem?_set_self hi, rfl, hkk.symm, rfl⟩
    · rename_i hkk
      rintro ⟨j, s, hj, h1, h2, h3⟩
      refine ⟨j, s, ?_, h1, h2, h3⟩
      unfold layL
      rw [List.getElem?_set_ne]
      · exact hj
      · rintro rfl
        exact hkk (h2.symm.trans (hst s hj h1))
/-- a key that is there goes. -/
theorem okT.del {l : List Slot} (h : okT l) {k : Int} (hf : (findL l k).2 = true) : okT (l.set (findL l k).1 ⟨2, 0, 0⟩) ∧ cnt 0 (l.set (findL l k).1 ⟨2, 0, 0⟩) = cnt 0 l ∧ ∀ k' v', Has (l.set (findL l k).1 ⟨2, 0, 0⟩) k' v' ↔ k' ≠ k ∧ Has l k' v' := by
  obtain ⟨hi, hfs⟩ := findL_spec (key := k) h.pow
  obtain ⟨s, hs, h1, h2⟩ := hfs hf
  have hc : cnt 0 (l.set (findL l k).1 ⟨2, 0, 0⟩) = cnt 0 l := cnt_set_eq hs (by omega) (by decide)
  refine ⟨h.set hi (by decide) (by rw [hc]; exact h.free) (fun _ _ _ => .inl (by decide)) (by simp [okS]) (fun c => by simp at c), hc, fun k' v' => ⟨?_, ?_⟩⟩
  · rintro ⟨j, x, hj, a1, a2, a3⟩
    by_cases hji : j = (findL l k).1
    · subst hji
      rw [List.getElem?_set_self hi] at hj
      cases hj
      simp at a1
    · rw [List.getElem?_set_ne (Ne.symm hji)] at hj
      refine ⟨?_, j, x, hj, a1, a2, a3⟩
      rintro rfl
      have := (h.find hj a1).1
      rw [a2] at this
      exact hji (by rw [this])
  · rintro ⟨hne, j, x, hj, a1, a2, a3⟩
    refine ⟨j, x, ?_, a1, a2, a3⟩
    rw [List.getElem?_set_ne]
    · exact hj
    · rintro rfl
      rw [hs] at hj
      cases hj
      exact hne (a2.symm.trans h2)
theorem Has.len {l : List Slot} {k v : Int} (h : Has l k v) : 0 < l.length := by
  obtain ⟨j, s, hj, _⟩ := h
  have := (List.getElem?_eq_some_iff.1 hj).1
  omega
theorem okT.has_uniq {l : List Slot} (h : okT l) {k v v' : Int} (a : Has l k v) (b : Has l k v') : v = v' := by
  obtain ⟨j, s, hj, h1, h2, rfl⟩ := a
  obtain ⟨j', s', hj', h1', h2', rfl⟩ := b
  have := h.uniq hj h1 hj' h1' (h2.trans h2'.symm)
  subst this
  rw [hj] at hj'
  cases hj'
  rfl
theorem okT_zero {n : Nat} (h : Pow n) : okT (List.replicate n zeroS) := by
  have := h.le
  refine ⟨by simpa using h, by simp [cnt, zeroS, List.countP_replicate]; omega, fun i s hi => ?_⟩
  simp only [List.getElem?_replicate, Option.ite_none_right_eq_some, Option.some.injEq] at hi
  rw [← hi.2]
  simp [okS, zeroS]
theorem cnt0_lay {l : List Slot} {k v : Int} : cnt 0 l ≤ cnt 0 (layL l k v) + 1 := cnt_set
/-- a table laid anew, with part of the keys. -/
theorem anew_fold : ∀ (r : List Slot) (t : List Slot), okT t → cnt 1 r < cnt 0 t → (∀ s ∈ r, s.st = 1 → s.key ≠ 0) → (r.Pairwise fun a b => a.st = 1 → b.st = 1 → a.key ≠ b.key) → (∀ s ∈ r, s.st = 1 → ∀ v, ¬ Has t s.key v) →
    okT (r.foldl (fun t s => if s.st = 1 then layL t s.key s.val else t) t) ∧ (∀ k v, Has (r.foldl (fun t s => if s.st = 1 then layL t s.key s.val else t) t) k v ↔ Has t k v ∨ ∃ s ∈ r, s.st = 1 ∧ s.key = k ∧ s.val = v)
  | [], t, h, _, _, _, _ => ⟨h, fun k v => by simp⟩
  | a :: r, t, h, hc, hk, hp, hn => by
    simp only [List.foldl_cons]
    rw [List.pairwise_cons] at hp
    by_cases h1 : a.st = 1
    · rw [if_pos h1]
      have hca : cnt 1 (a :: r) = cnt 1 r + 1 := by simp [cnt, List.countP_cons, h1]
      rw [hca] at hc
      have h0 := cnt0_lay (l := t) (k := a.key) (v := a.val)
      have hok := h.lay (k := a.key) (v := a.val) (hk a (by simp) h1) (by omega)
      have hhas := fun k v => h.lay_has (k := a.key) (v := a.val) (k' := k) (v' := v)
      obtain ⟨a1, a2⟩ := anew_fold r _ hok (by omega) (fun s hs => hk s (by simp [hs])) hp.2 (fun s hs h1' v hv => by
        rw [hhas] at hv
        rw [if_neg (fun e => hp.1 s hs h1 h1' e.symm)] at hv
        exact hn s (by simp [hs]) h1' v hv)
      refine ⟨a1, fun k v => ?_⟩
      rw [a2, hhas]
      by_cases hka : k = a.key
      · rw [if_pos hka]
        constructor
        · rintro (rfl | ⟨s, hs, b1, b2, b3⟩)
          · exact .inr ⟨a, by simp, h1, hka.symm, rfl⟩
          · exact .inr ⟨s, by simp [hs], b1, b2, b3⟩
        · rintro (hv | ⟨s, hs, b1, b2, b3⟩)
          · exact absurd hv (by rw [hka]; exact hn a (by simp) h1 v)
          · rcases List.mem_cons.1 hs with rfl | hs
            · exact .inl b3.symm
            · exact .inr ⟨s, hs, b1, b2, b3⟩
      · rw [if_neg hka]
        constructor
        · rintro (hv | ⟨s, hs, b1, b2, b3⟩)
          · exact .inl hv
          · exact .inr ⟨s, by simp [hs], b1, b2, b3⟩
        · rintro (hv | ⟨s, hs, b1, b2, b3⟩)
          · exact .inl hv
          · rcases List.mem_cons.1 hs with rfl | hs
            · exact absurd b2.symm hka
            · exact .inr ⟨s, hs, b1, b2, b3⟩
    · rw [if_neg h1]
      have hca : cnt 1 (a :: r) = cnt 1 r := by simp [cnt, List.countP_cons, h1]
      rw [hca] at hc
      obtain ⟨a1, a2⟩ := anew_fold r t h hc (fun s hs => hk s (by simp [hs])) hp.2 (fun s hs => hn s (by simp [hs]))
      refine ⟨a1, fun k v => ?_⟩
      rw [a2]
      constructor
      · rintro (hv | ⟨s, hs, b1, b2, b3⟩)
        · exact .inl hv
        · exact .inr ⟨s, by simp [hs], b1, b2, b3⟩
      · rintro (hv | ⟨s, hs, b1, b2, b3⟩)
        · exact .inl hv
        · rcases List.mem_cons.1 hs with rfl | hs
          · exact absurd b1 h1
          · exact .inr ⟨s, hs, b1, b2, b3⟩
theorem has_iff {l : List Slot} {k v : Int} : Has l k v ↔ ∃ s ∈ l, s.st = 1 ∧ s.key = k ∧ s.val = v := by
  constructor
  · rintro ⟨j, s, hj, h⟩
    exact ⟨s, List.mem_of_getElem? hj, h⟩
  · rintro ⟨s, hs, h⟩
    obtain ⟨j, hj⟩ := List.getElem?_of_mem hs
    exact ⟨j, s, hj, h⟩
theorem okT.pair {l : List Slot} (h : okT l) : l.Pairwise fun a b => a.st = 1 → b.st = 1 → a.key ≠ b.key := by
  rw [List.pairwise_iff_getElem]
  intro i j hi hj hij h1 h2 hk
  have := h.uniq (List.getElem?_eq_getElem hi) h1 (List.getElem?_eq_getElem hj) h2 hk
  omega
/-- the slots of a right table that are used: their keys are apart, and not 0. -/
theorem valid_pair {l : List Slot} (h : validB l = true) : (∀ s ∈ l, s.st = 1 → s.key ≠ 0) ∧ l.Pairwise fun a b => a.st = 1 → b.st = 1 → a.key ≠ b.key := by
  rcases valid_iff.1 h with h | ⟨h, _⟩
  · have : l = [] := List.length_eq_zero_iff.1 h
    subst this
    exact ⟨by simp, List.Pairwise.nil⟩
  · refine ⟨fun s hs h1 => ?_, h.pair⟩
    obtain ⟨j, hj⟩ := List.getElem?_of_mem hs
    exact (h.find hj h1).2
theorem valid_anew {l : List Slot} (h : validB l = true) (hs : sizeL (cnt 1 l) ≤ 64) : okT (anewL l) ∧ ∀ k v, Has (anewL l) k v ↔ Has l k v := by
  have hc := sizeL_cases (cnt 1 l)
  have hp : Pow (sizeL (cnt 1 l) : Nat) := by unfold Pow; omega
  obtain ⟨h1, h2⟩ := valid_pair h
  have h0 : ∀ k v, ¬ Has (List.replicate (sizeL (cnt 1 l)) zeroS) k v := by
    rintro k v ⟨j, s, hj, a, _⟩
    simp only [List.getElem?_replicate, Option.ite_none_right_eq_some, Option.some.injEq] at hj
    rw [← hj.2] at a
    simp [zeroS] at a
  have he : cnt 0 (List.replicate (sizeL (cnt 1 l)) zeroS) = sizeL (cnt 1 l) := by simp [cnt, zeroS, List.countP_replicate]
  obtain ⟨a, b⟩ := anew_fold l _ (okT_zero hp) (by rw [he]; omega) h1 h2 (fun s _ _ => h0 s.key)
  refine ⟨a, fun k v => ?_⟩
  rw [has_iff (l := l)]
  refine (b k v).trans ⟨fun hh => hh.resolve_left (h0 k v), .inr⟩
theorem cnt_set_up {l : List Slot} {i : Nat} {s : Slot} {st : Int} : cnt st (l.set i s) ≤ cnt st l + 1 := by
  induction l generalizing i with
  | nil => simp [cnt]
  | cons a l ih =>
    cases i with
    | zero => simp only [List.set_cons_zero, cnt, List.countP_cons]; split <;> split <;> omega
    | succ i =>
      have := ih (i := i)
      simp only [List.set_cons_succ, cnt, List.countP_cons] at this ⊢
      omega
theorem anew_cnt {l : List Slot} : (anewL l).length = sizeL (cnt 1 l) ∧ sizeL (cnt 1 l) ≤ cnt 0 (anewL l) + cnt 1 l ∧ cnt 1 (anewL l) ≤ cnt 1 l := by
  have key : ∀ (k t : List Slot), (k.foldl (fun t s => if s.st = 1 then layL t s.key s.val else t) t).length = t.length ∧ cnt 0 t ≤ cnt 0 (k.foldl (fun t s => if s.st = 1 then layL t s.key s.val else t) t) + cnt 1 k ∧ cnt 1 (k.foldl (fun t s => if s.st = 1 then layL t s.key s.val else t) t) ≤ cnt 1 t + cnt 1 k := by
    intro k
    induction k with
    | nil => intro t; simp [cnt]
    | cons a k ih =>
      intro t
      simp only [List.foldl_cons]
      obtain ⟨h1, h2, h3⟩ := ih (if a.st = 1 then layL t a.key a.val else t)
      rw [h1]
      have e : cnt 1 (a :: k) = cnt 1 k + (if a.st = 1 then 1 else 0) := by simp [cnt, List.countP_cons]
      rw [e]
      split
      · rename_i hs
        rw [if_pos hs] at h2 h3
        have := cnt_set (l := t) (i := (findL t a.key).1) (s := ⟨1, a.key, a.val⟩) (st := 0)
        have := cnt_set_up (l := t) (i := (findL t a.key).1) (s := ⟨1, a.key, a.val⟩) (st := 1)
        refine ⟨layL_length, ?_, ?_⟩
        · unfold layL at h2 h3 ⊢
          omega
        · unfold layL at h2 h3 ⊢
          omega
      · rename_i hs
        rw [if_neg hs] at h2 h3
        exact ⟨rfl, by omega, by omega⟩
  obtain ⟨h1, h2, h3⟩ := key l (List.replicate (sizeL (cnt 1 l)) zeroS)
  have e0 : cnt 0 (List.replicate (sizeL (cnt 1 l)) zeroS) = sizeL (cnt 1 l) := by simp [cnt, zeroS, List.countP_replicate]
  have e1 : cnt 1 (List.replicate (sizeL (cnt 1 l)) zeroS) = 0 := by simp [cnt, zeroS, List.countP_replicate]
  rw [List.length_replicate] at h1
  rw [e0] at h2
  rw [e1] at h3
  exact ⟨h1, h2, by rw [Nat.zero_add] at h3; exact h3⟩
/-- what Put does to a right table. -/
theorem putL_valid {l : List Slot} {k v : Int} (h : validB l = true) (hk : k ≠ 0) :
    ((putL l k v).2 = 0 ∧ validB (putL l k v).1 = true ∧ okT (putL l k v).1 ∧ (∀ k' v', Has (putL l k v).1 k' v' ↔ if k' = k then v' = v else Has l k' v') ∧ cnt 1 (putL l k v).1 ≤ cnt 1 l + 1) ∨
    ((putL l k v).2 = 6 ∧ (putL l k v).1 = l ∧ 64 < sizeL (cnt 1 l)) := by
  unfold putL
  rw [if_pos h, if_neg hk]
  by_cases hn : needL l k = true
  · rw [if_pos hn]
    by_cases hs : sizeL (cnt 1 l) ≤ 64
    · rw [if_pos hs]
      obtain ⟨a1, a2⟩ := valid_anew h hs
      obtain ⟨c1, c2, c3⟩ := anew_cnt (l := l)
      have hc := sizeL_cases (cnt 1 l)
      have h0 := cnt0_lay (l := anewL l) (k := k) (v := v)
      have hok := a1.lay (k := k) (v := v) hk (by omega)
      refine .inl ⟨rfl, valid_iff.2 (.inr ⟨hok, ?_⟩), hok, fun k' v' => ?_, ?_⟩
      · dsimp only; rw [layL_length, c1]; omega
      · rw [a1.lay_has, a2]
      · exact Nat.le_trans cnt_set_up (by omega)
    · rw [if_neg hs]
      exact .inr ⟨rfl, rfl, by omega⟩
  · rw [if_neg hn]
    rcases valid_iff.1 h with h0 | ⟨h1, h4⟩
    · exact absurd (by simp [needL, findL, h0]) hn
    · obtain ⟨hi, hfs⟩ := findL_spec (key := k) h1.pow
      have hle := h1.pow.le
      obtain ⟨s, hs⟩ : ∃ s, l[(findL l k).1]? = some s := ⟨_, List.getElem?_eq_getElem hi⟩
      have hc0 : l.length ≤ 4 * cnt 0 (layL l k v) := by
        have hcs := cnt0_set (x := ⟨1, k, v⟩) hs (show (1:Int) ≠ 0 by decide)
        unfold layL
        split at hcs
        · rename_i h0
          have hf : (findL l k).2 = false := by
            cases hf : (findL l k).2 with
            | false => rfl
            | true =>
              obtain ⟨s', a, b, _⟩ := hfs hf
              rw [a] at hs; cases hs; omega
          have hl0 : ¬ l.length = 0 := by omega
          simp only [needL, hf, hs, h0, hl0, Bool.not_false, Bool.true_and, decide_false, Bool.false_or, Option.any_some, decide_true, decide_eq_true_eq] at hn
          omega
        · omega
      have hok := h1.lay (k := k) (v := v) hk (by omega)
      exact .inl ⟨rfl, valid_iff.2 (.inr ⟨hok, by rw [layL_length]; exact hc0⟩), hok, fun k' v' => h1.lay_has, cnt_set_up⟩
/-- what Get tells of a right table. -/
theorem getL_valid {l : List Slot} {k : Int} (h : validB l = true) (hk : k ≠ 0) : (∃ v, getL l k = (v, 0) ∧ Has l k v) ∨ (getL l k = (0, 3) ∧ ∀ v, ¬ Has l k v) := by
  unfold getL
  rw [if_pos h, if_neg hk]
  rcases valid_iff.1 h with h0 | ⟨h1, _⟩
  · rw [if_neg (by simp [findL, h0])]
    exact .inr ⟨rfl, fun v hv => by have := hv.len; omega⟩
  · by_cases hf : (findL l k).2 = true
    · rw [if_pos hf]
      obtain ⟨s, a, b, c⟩ := h1.found hf
      exact .inl ⟨s.val, by simp [a], _, s, a, b, c, rfl⟩
    · rw [if_neg hf]
      exact .inr ⟨rfl, fun v hv => hf (h1.found_iff.2 ⟨v, hv⟩)⟩
theorem getL_eq {l l' : List Slot} {k : Int} (h : validB l = true) (h' : validB l' = true) (hh : ∀ v, Has l k v ↔ Has l' k v) : getL l k = getL l' k := by
  by_cases hk : k = 0
  · simp [getL, h, h', hk]
  rcases getL_valid h hk with ⟨v, e, a⟩ | ⟨e, a⟩
  · rcases getL_valid h' hk with ⟨v', e', a'⟩ | ⟨e', a'⟩
    · rw [e, e']
      rcases valid_iff.1 h with h0 | ⟨h1, _⟩
      · have := a.len; omega
      · rw [h1.has_uniq a ((hh v').2 a')]
    · exact absurd ((hh v).1 a) (a' v)
  · rcases getL_valid h' hk with ⟨v', e', a'⟩ | ⟨e', a'⟩
    · exact absurd ((hh v').2 a') (a v')
    · rw [e, e']
theorem getL_bad {l : List Slot} {k : Int} (h : ¬ validB l = true) : getL l k = (0, 2) := by simp [getL, h]
end Go.AM.G.E
