/- Part of the proof: contracts of functions of the given program on an abstract machine. -/
import Derived.Test.YtdfbfcohindpnaaEphemAllS
set_option linter.unusedVariables false
set_option linter.unusedSimpArgs false
set_option maxRecDepth 100000
namespace Go.AM.G
open Go Go.AM
/-! ### how many keys there are -/
def keysU (l : List Slot) : List Int := (used l).map (·.key)
theorem cnt_used {l : List Slot} : cnt 1 l = (used l).length := by
  unfold cnt used
  rw [List.countP_eq_length_filter]
theorem cnt_keys {l : List Slot} : cnt 1 l = (keysU l).length := by rw [cnt_used]; simp [keysU]
theorem mem_keysU {l : List Slot} {k : Int} : k ∈ keysU l ↔ ∃ v, Has l k v := by
  unfold keysU
  rw [List.mem_map]
  constructor
  · rintro ⟨s, hs, rfl⟩
    exact ⟨s.val, has_iff.2 ⟨s, (mem_used.1 hs).1, (mem_used.1 hs).2, rfl, rfl⟩⟩
  · rintro ⟨v, hv⟩
    obtain ⟨s, hs, h1, h2, _⟩ := has_iff.1 hv
    exact ⟨s, mem_used.2 ⟨hs, h1⟩, h2⟩
theorem keysU_nodup {l : List Slot} (h : validB l = true) : (keysU l).Nodup := by
  unfold keysU List.Nodup
  rw [List.pairwise_map]
  exact used_pair h
theorem cnt_put {l l' : List Slot} {k : Int} (h : validB l = true) (h' : validB l' = true) (hh : ∀ k', (∃ v, Has l' k' v) ↔ k' = k ∨ ∃ v, Has l k' v) [Decidable (∃ v, Has l k v)] : cnt 1 l' = cnt 1 l + if (∃ v, Has l k v) then 0 else 1 := by
  rw [cnt_keys, cnt_keys]
  split
  · rename_i hk
    refine (List.Perm.length_eq ((List.perm_ext_iff_of_nodup (keysU_nodup h') (keysU_nodup h)).2 fun k' => ?_)).trans (Nat.add_zero _).symm
    rw [mem_keysU, mem_keysU, hh]
    constructor
    · rintro (rfl | h)
      · exact hk
      · exact h
    · exact .inr
  · rename_i hk
    have : (k :: keysU l).Nodup := List.nodup_cons.2 ⟨fun hm => hk (mem_keysU.1 hm), keysU_nodup h⟩
    refine (List.Perm.length_eq ((List.perm_ext_iff_of_nodup (keysU_nodup h') this).2 fun k' => ?_)).trans List.length_cons
    rw [List.mem_cons, mem_keysU, mem_keysU, hh]
theorem cnt_del {l l' : List Slot} {k : Int} (h : validB l = true) (h' : validB l' = true) (hh : ∀ k', (∃ v, Has l' k' v) ↔ k' ≠ k ∧ ∃ v, Has l k' v) : cnt 1 l' = (keysU l).length - if k ∈ keysU l then 1 else 0 := by
  rw [cnt_keys]
  have hn := keysU_nodup h
  have hp : (keysU l').Perm ((keysU l).erase k) := (List.perm_ext_iff_of_nodup (keysU_nodup h') (hn.erase k)).2 fun k' => by
    rw [hn.mem_erase_iff, mem_keysU, mem_keysU, hh]
  rw [hp.length_eq, List.length_erase]
  split <;> simp_all
/-- what a key has behind a Put. -/
theorem get_put {l : List Slot} {k v key : Int} (h : validB l = true) (hk : k ≠ 0) (h0 : (putL l k v).2 = 0) :
    validB (putL l k v).1 = true ∧ getL (putL l k v).1 key = (if key = k then (v, 0) else getL l key) ∧ (cnt 1 (putL l k v).1 : Int) = cnt 1 l + (if (getL l k).2 = 3 then 1 else 0) := by
  rcases putL_valid (v := v) h hk with ⟨_, p1, _, p3, _⟩ | ⟨p1, _⟩
  · refine ⟨p1, ?_, ?_⟩
    · split
      · rename_i e
        subst e
        rcases getL_valid p1 hk with ⟨v', e, a⟩ | ⟨e, a⟩
        · have hv := (p3 key v').1 a
          rw [if_pos rfl] at hv
          rw [e, hv]
        · exact absurd ((p3 key v).2 (by rw [if_pos rfl])) (a v)
      · rename_i hne
        refine (getL_eq h p1 fun v' => ?_).symm
        rw [p3, if_neg hne]
    · have hd : Decidable (∃ v, Has l k v) := Classical.propDecidable _
      have hc := cnt_put (k := k) h p1 fun k' => by
        constructor
        · rintro ⟨v', hv⟩
          rw [p3] at hv
          split at hv
          · rename_i e; exact .inl e
          · exact .inr ⟨v', hv⟩
        · intro hx
          by_cases e : k' = k
          · exact ⟨v, (p3 k' v).2 (by rw [if_pos e])⟩
          · obtain ⟨v', hv⟩ := hx.resolve_left e
            exact ⟨v', (p3 k' v').2 (by rw [if_neg e]; exact hv)⟩
      rw [hc]
      rcases getL_valid h hk with ⟨v', e, a⟩ | ⟨e, a⟩
      · rw [if_pos ⟨v', a⟩, e]; simp
      · rw [if_neg (fun ⟨v', hv⟩ => a v' hv), e]; simp
  · rw [h0] at p1; cases p1
theorem get_del {l : List Slot} {k key : Int} (h : validB l = true) :
    validB (delL l [k]).1 = true ∧ getL (delL l [k]).1 key = (if k = key ∧ key ≠ 0 then (0, 3) else getL l key) ∧ (cnt 1 (delL l [k]).1 : Int) = cnt 1 l - (delL l [k]).2.1 ∧ (delL l [k]).2.2 = 0 ∧ 0 ≤ (delL l [k]).2.1 ∧ (delL l [k]).2.1 ≤ 1 := by
  obtain ⟨d1, d2, d3, d4⟩ := delL_valid (k := k) h
  refine ⟨d1, ?_, ?_, d2, ?_, ?_⟩
  · split
    · rename_i e
      obtain ⟨rfl, hk0⟩ := e
      rcases getL_valid d1 hk0 with ⟨v', _, hv⟩ | ⟨e, _⟩
      · exact absurd rfl ((d3 k v').1 hv).1
      · exact e
    · rename_i hne
      by_cases h0 : key = 0
      · simp [getL, h, d1, h0]
      · refine (getL_eq h d1 fun v' => ?_).symm
        rw [d3]
        have : key ≠ k := fun e => hne ⟨e.symm, h0⟩
        simp [this]
  · have hc := cnt_del (k := k) h d1 fun k' => by
      constructor
      · rintro ⟨v', hv⟩; exact ⟨((d3 k' v').1 hv).1, v', ((d3 k' v').1 hv).2⟩
      · rintro ⟨hne, v', hv⟩; exact ⟨v', (d3 k' v').2 ⟨hne, hv⟩⟩
    rw [hc, cnt_keys]
    rcases d4 with ⟨hv, e⟩ | ⟨hv, e⟩
    · have hm := mem_keysU.2 hv
      have := List.length_pos_of_mem hm
      rw [if_pos hm, e]; omega
    · have hm : ¬ k ∈ keysU l := fun hm => by obtain ⟨v', hv'⟩ := mem_keysU.1 hm; exact hv v' hv'
      rw [if_neg hm, e]; omega
  · rcases d4 with ⟨_, e⟩ | ⟨_, e⟩ <;> rw [e] <;> omega
  · rcases d4 with ⟨_, e⟩ | ⟨_, e⟩ <;> rw [e] <;> omega
structure StepA where
  del : Bool
  key : Int
  val : Int
instance : Inhabited StepA := ⟨⟨false, 0, 0⟩⟩
def encSt (s : StepA) : List V := [.bool s.del, .int .u64 s.key, .int .u64 s.val]
theorem map_tail {M : Mem} {fr : Frame} {Q : AExit → Frame → Mem → Prop} {u : V} {t : List Slot} {T : Nat} {key : Int} (f1 : fr 1 = .int .u64 key) (f5 : fr 5 = .ptr T 0 0) (f6 : fr 6 = .int .u64 (getL t key).1) (f7 : fr 7 = .int .i64 (getL t key).2) (f8 : fr 8 = .int .i64 (cnt 1 t)) (hT : M[T]? = some (.cells true [[u]])) (hu : Sl M u 3 (encs t)) (hval : validB t = true)
    (hQ : ∀ (fr' : Frame) M', fr' 1 = fr 1 → fr' 5 = fr 5 → fr' 6 = fr 6 → fr' 7 = fr 7 → fr' 8 = fr 8 → fr' 28 = fr 28 → fr' 29 = fr 29 → fr' 30 = fr 30 → Grow M M' → Q .normal fr' M') : W S law10_EphemMap_j2 fr M Q := by
  have h64 := valid_len hval
  unfold law10_EphemMap_j2
  simp (maxDischargeDepth := 30) only [f1, f5, f6, f7, f8, load_at0 hT, amL, args0, Nat.reduceEqDiff, reduceCtorEq, ↓reduceIte, Nat.reduceAdd, resultsA, results1, Int.reduceNeg, splice, Nat.reduceLeDiff, part, fillA, fillE, Nat.reduceLT]
  refine (Get_spec key hu (by omega)).mono ?_
  rintro _ M1 ⟨rfl, hg1⟩
  simp (maxDischargeDepth := 30) only [aft_mk, f1, f5, f6, f7, f8, load_at0 (hg1.get hT), amL, args0, Nat.reduceEqDiff, reduceCtorEq, ↓reduceIte, Nat.reduceAdd, resultsA, results1, Int.reduceNeg, splice, Nat.reduceLeDiff, part, fillA, fillE, Nat.reduceLT]
  refine (All_spec (hu.grow hg1) (by omega)).mono ?_
  rintro _ M2 ⟨kv, vv, rfl, hg2, hkv, hvv⟩
  have hg := hg1.trans hg2
  have e1 : (allL t).2.2 = 0 := by simp [allL, hval]
  have e2 : (ints (allL t).1).length = cnt 1 t := by simp [allL, hval, srtL_len, cnt_used]
  have e3 : (ints (allL t).2.1).length = cnt 1 t := by simp [allL, hval, srtL_len, cnt_used]
  have c1 : ∀ x : Int, ¬ ¬ x = x := fun x h => h rfl
  simp (maxDischargeDepth := 30) only [aft_mk, f1, f5, f6, f7, f8, e1, e2, e3, hkv.len, hvv.len, c1, load_at0 (hg.get hT), amL, args0, Nat.reduceEqDiff, reduceCtorEq, ↓reduceIte, Nat.reduceAdd, resultsA, results1, Int.reduceNeg, splice, Nat.reduceLeDiff, part, fillA, fillE, Nat.reduceLT]
  refine (Check_spec (hu.grow hg) (by omega)).mono ?_
  rintro _ M3 ⟨rfl, hg3⟩
  simp (maxDischargeDepth := 30) only [aft_mk, hval, c1, amL, args0, Nat.reduceEqDiff, reduceCtorEq, ↓reduceIte, Nat.reduceAdd, resultsA, results1, Int.reduceNeg, splice, Nat.reduceLeDiff, part, fillA, fillE, Nat.reduceLT]
  refine hQ _ _ ?_ ?_ ?_ ?_ ?_ ?_ ?_ ?_ (hg.trans hg3)
  all_goals simp (maxDischargeDepth := 30) only [f1, f5, f6, f7, f8, amL, args0, Nat.reduceEqDiff, reduceCtorEq, ↓reduceIte, Nat.reduceAdd, resultsA, results1, Int.reduceNeg, splice, Nat.reduceLeDiff, part, fillA, fillE, Nat.reduceLT]
theorem map_spec {m : Mem} {w : V} {l : List StepA} (key : Int) (hw : Sl m w 3 (l.map encSt)) (hl : l.length < 2 ^ 60) : C S n_law10_EphemMap [w, .int .u64 key] m (fun r m' => r = .bool true ∧ Grow m m') := by
  refine C_body rfl rfl rfl ?_
  unfold law10_EphemMap
  simp (maxDischargeDepth := 30) only [amL, args0, Nat.reduceEqDiff, reduceCtorEq, ↓reduceIte, Nat.reduceAdd, resultsA, results1, Int.reduceNeg, splice, Nat.reduceLeDiff, part, fillA, fillE, Nat.reduceLT]
  refine lives_spec.mono ?_
  rintro _ _ ⟨rfl, rfl⟩
  simp (maxDischargeDepth := 30) only [aft_mk, amL, args0, Nat.reduceEqDiff, reduceCtorEq, ↓reduceIte, Nat.reduceAdd, resultsA, results1, Int.reduceNeg, splice, Nat.reduceLeDiff, part, fillA, fillE, Nat.reduceLT]
  have hlw : (l.map encSt).length = l.length := by simp
  let I := fun (n : Nat) (fr : Frame) (M : Mem) => ∃ (i : Nat) (u : V) (t : List Slot), i ≤ l.length ∧ i ≤ 60 ∧ n = l.length - i ∧ fr 1 = .int .u64 key ∧ fr 5 = .ptr m.length 0 0 ∧ fr 28 = w ∧ fr 29 = .int .i64 l.length ∧ fr 30 = .int .i64 i ∧ fr 6 = .int .u64 (getL t key).1 ∧ fr 7 = .int .i64 (getL t key).2 ∧ fr 8 = .int .i64 (cnt 1 t) ∧ Grow m M ∧ M[m.length]? = some (.cells true [[u]]) ∧ Sl M u 3 (encs t) ∧ validB t = true
  have main : ∀ (fr : Frame), fr 0 = w → fr 1 = .int .u64 key → fr 5 = .ptr m.length 0 0 → fr 6 = .int .u64 (getL [] key).1 → fr 7 = .int .i64 (getL [] key).2 → W S law10_EphemMap_j0 fr (m ++ [Blk.cells true [[V.nils]]]) (bodyQ [.t 4] (fun r m' => r = .bool true ∧ Grow m m')) := by
    intro fr f0 f1 f5 f6 f7
    unfold law10_EphemMap_j0
    simp (maxDischargeDepth := 30) only [f0, f1, f5, f6, f7, hw.len, hlw, amL, args0, Nat.reduceEqDiff, reduceCtorEq, ↓reduceIte, Nat.reduceAdd, resultsA, results1, Int.reduceNeg, splice, Nat.reduceLeDiff, part, fillA, fillE, Nat.reduceLT]
    refine W_loop I ?_ l.length ?_
    · rintro n fr M ⟨i, u, t, hi, hi60, rfl, f1, f5, f28, f29, f30, f6, f7, f8, hg, hT, hu, hval⟩
      have huc := hu.cell
      have h64 := valid_len hval
      unfold law10_EphemMap_l0
      simp (maxDischargeDepth := 30) only [f1, f5, f28, f29, f30, f6, f7, f8, amL, args0, Nat.reduceEqDiff, reduceCtorEq, ↓reduceIte, Nat.reduceAdd, resultsA, results1, Int.reduceNeg, splice, Nat.reduceLeDiff, part, fillA, fillE, Nat.reduceLT]
      first | (refine O_split (by simp only [put_apply, Nat.reduceEqDiff, ↓reduceIte, reduceCtorEq]; rfl) (fun h => ?_) (fun h => ?_) <;> simp only [decide_eq_true_eq, decide_eq_false_iff_not, Decidable.not_not, Bool.and_eq_true, Bool.not_eq_true', Bool.not_eq_false'] at h) | (refine W_split (by simp only [get_t, put_apply, Nat.reduceEqDiff, ↓reduceIte, reduceCtorEq]; rfl) (fun h => ?_) (fun h => ?_) <;> simp only [decide_eq_true_eq, decide_eq_false_iff_not, Decidable.not_not, Bool.and_eq_true, Bool.not_eq_true', Bool.not_eq_false'] at h)
      · have hil : i < l.length := by omega
        obtain ⟨s, hs⟩ : ∃ s, l[i]? = some s := ⟨_, List.getElem?_eq_getElem hil⟩
        have hwl := hw.grow hg
        have ix := hwl.index (ki := .i64) (n := i) (by omega) (by omega)
        have ld := fun o j => hwl.load (o := o) (k := j) (i := i) (el := encSt s) (by simp [hs])
        simp only [Int.toNat_natCast, encSt] at ix ld
        by_cases h60 : i = 60
        · have h60' : ((i : Int) = 60) = True := eq_true (by omega)
          simp (maxDischargeDepth := 30) only [h, f1, f5, f28, f29, f30, f6, f7, f8, ix, ld, h60', amL, args0, Nat.reduceEqDiff, reduceCtorEq, ↓reduceIte, Nat.reduceAdd, resultsA, results1, Int.reduceNeg, splice, Nat.reduceLeDiff, part, fillA, fillE, Nat.reduceLT]
          exact hg.app
        have h60' : ¬ (i : Int) = 60 := by omega
        have w1 : IntKind.i64.wrap ((i : Int) + 1) = ((i + 1 : Nat) : Int) := by rw [wrap_i64] <;> omega
        have l1 := fun k j => load_at0 (M := M ++ [Blk.cells true [[V.bool s.del, V.int .u64 s.key, V.int .u64 s.val]]]) (b := M.length) (own := true) (el := [V.bool s.del, V.int .u64 s.key, V.int .u64 s.val]) (k := k) (j := j) (by simp)
        have hT1 : (M ++ [Blk.cells true [[V.bool s.del, V.int .u64 s.key, V.int .u64 s.val]]])[m.length]? = some (.cells true [[u]]) := getElem?_grow hT
        have hu1 : Sl (M ++ [Blk.cells true [[V.bool s.del, V.int .u64 s.key, V.int .u64 s.val]]]) u 3 (encs t) := hu.app
        have hg1 : Grow m (M ++ [Blk.cells true [[V.bool s.del, V.int .u64 s.key, V.int .u64 s.val]]]) := hg.app
        have hP1 : (M ++ [Blk.cells true [[V.bool s.del, V.int .u64 s.key, V.int .u64 s.val]]])[M.length]? = some (.cells true [[V.bool s.del, V.int .u64 s.key, V.int .u64 s.val]]) := by simp
        have hmM := (List.getElem?_eq_some_iff.1 hT).1
        cases hdel : s.del with
        | true =>
          rw [hdel] at l1 hT1 hu1 hg1 hP1 ld
          simp (maxDischargeDepth := 30) only [h, f1, f5, f28, f29, f30, f6, f7, f8, ix, ld, h60', l1, amL, args0, Nat.reduceEqDiff, reduceCtorEq, ↓reduceIte, Nat.reduceAdd, resultsA, results1, Int.reduceNeg, splice, Nat.reduceLeDiff, part, fillA, fillE, Nat.reduceLT]
          generalize M ++ [Blk.cells true [[V.bool true, V.int .u64 s.key, V.int .u64 s.val]]] = M1 at hT1 hu1 hg1 hP1
          have hwd : Sl (M1 ++ [Blk.cells true [[V.int .u64 s.key]]]) (.slice M1.length 0 1 1 true 1) 1 (ints [s.key]) := Sl.mk (els := ints [s.key]) (own := true) (by simp)
          simp (maxDischargeDepth := 30) only [load_at0 hT1, load_at0 hP1, amL, args0, Nat.reduceEqDiff, reduceCtorEq, ↓reduceIte, Nat.reduceAdd, resultsA, results1, Int.reduceNeg, splice, Nat.reduceLeDiff, part, fillA, fillE, Nat.reduceLT]
          refine (Del_spec (keys := [s.key]) hu1.app hwd (by omega) (by simp)).mono ?_
          rintro _ M2 ⟨ub, rfl, hg2, hub⟩
          have hubc := hub.1.cell
          obtain ⟨d1, d2, d3, d4, d5, d6⟩ := get_del (k := s.key) (key := key) hval
          have hT2 := hg2.get (getElem?_grow (g := [Blk.cells true [[V.int .u64 s.key]]]) hT1)
          have hP2 := hg2.get (getElem?_grow (g := [Blk.cells true [[V.int .u64 s.key]]]) hP1)
          have hgm2 := (hg1.app (g := [Blk.cells true [[V.int .u64 s.key]]])).trans hg2
          have hub1 := hub.1
          clear hub
          have c1 : ∀ x : Int, ¬ ¬ x = x := fun x h => h rfl
          have c2 : ¬ (delL t [s.key]).2.1 < 0 := by omega
          have c3 : ¬ 1 < (delL t [s.key]).2.1 := by omega
          have hT3 : (M2 ++ [Blk.cells true [[ub]]])[m.length]? = some (.cells true [[u]]) := getElem?_grow hT2
          have s1 := store_at0 (x := .agg [ub]) (j := 0) (n := 1) hT3 rfl (by simp) (by simp [cells_agg, hubc])
          have hml := (List.getElem?_eq_some_iff.1 hT3).1
          have l3 := fun k => load_at0 (M := M2 ++ [Blk.cells true [[ub]]]) (b := M2.length) (own := true) (el := [ub]) (k := k) (j := 0) (by simp)
          simp only [cells_agg, splice, List.take_zero, List.nil_append, List.cons_append, List.length_cons, List.length_nil, Nat.zero_add, List.drop_succ_cons, List.drop_nil] at s1
          have hP3 : ((M2 ++ [Blk.cells true [[ub]]]).set m.length (.cells true [[ub]]))[M.length]? = some (.cells true [[V.bool true, V.int .u64 s.key, V.int .u64 s.val]]) := by
            rw [List.getElem?_set_ne (by omega)]
            exact getElem?_grow hP2
          have w4 : IntKind.i64.wrap ((cnt 1 t : Int) - (delL t [s.key]).2.1) = (cnt 1 (delL t [s.key]).1 : Int) := by
            have := cnt_le 1 t
            rw [d3, wrap_i64] <;> omega
          have hub3 : Sl ((M2 ++ [Blk.cells true [[ub]]]).set m.length (.cells true [[ub]])) ub 3 (encs (delL t [s.key]).1) := (hub1.app).set_other encs_z hT3 (by simp) rfl
          have hT4 : ((M2 ++ [Blk.cells true [[ub]]]).set m.length (.cells true [[ub]]))[m.length]? = some (.cells true [[ub]]) := List.getElem?_set_self hml
          have hgm4 : Grow m ((M2 ++ [Blk.cells true [[ub]]]).set m.length (.cells true [[ub]])) := hgm2.app.set (Nat.le_refl _) _
          have hfin : ∀ (fr' : Frame), fr' 1 = .int .u64 key → fr' 5 = .ptr m.length 0 0 → fr' 6 = .int .u64 (getL (delL t [s.key]).1 key).1 → fr' 7 = .int .i64 (getL (delL t [s.key]).1 key).2 → fr' 8 = .int .i64 (cnt 1 (delL t [s.key]).1) → fr' 28 = w → fr' 29 = .int .i64 l.length → fr' 30 = .int .i64 i → W S law10_EphemMap_j2 fr' ((M2 ++ [Blk.cells true [[ub]]]).set m.length (.cells true [[ub]])) (outOf 1 (andThen S (.region [⟨(some 140), none, (.bin .add (.t 30) (.c (.int .i64 1))), none, []⟩, ⟨(some 30), none, (.mv (.t 140)), none, []⟩]) (fun e fr' m' => match e with | .normal => ∃ j, j < l.length - i ∧ I j fr' m' | e => outOf 0 (andThen S (.seq (.region [⟨(some 4), none, (.mv (.c (.bool true))), none, []⟩]) .ret) (bodyQ [.t 4] (fun r m' => r = .bool true ∧ Grow m m'))) e fr' m'))) := by
            intro fr' a1 a5 a6 a7 a8 a28 a29 a30
            refine map_tail a1 a5 a6 a7 a8 hT4 hub3 d1 ?_
            intro fr2 M3 b1 b5 b6 b7 b8 b28 b29 b30 hg3
            simp (maxDischargeDepth := 30) only [b30, a30, w1, amL, args0, Nat.reduceEqDiff, reduceCtorEq, ↓reduceIte, Nat.reduceAdd, resultsA, results1, Int.reduceNeg, splice, Nat.reduceLeDiff, part, fillA, fillE, Nat.reduceLT]
            refine ⟨_, ?_, i + 1, ub, _, by omega, by omega, rfl, ?_, ?_, ?_, ?_, ?_, ?_, ?_, ?_, hgm4.trans hg3, hg3.get hT4, hub3.grow hg3, d1⟩
            · omega
            all_goals simp (maxDischargeDepth := 30) only [b1, b5, b6, b7, b8, b28, b29, b30, a1, a5, a6, a7, a8, a28, a29, a30, amL, args0, Nat.reduceEqDiff, reduceCtorEq, ↓reduceIte, Nat.reduceAdd, resultsA, results1, Int.reduceNeg, splice, Nat.reduceLeDiff, part, fillA, fillE, Nat.reduceLT]
          by_cases hk : s.key = key
          · have hk' : (s.key = key) = True := eq_true hk
            by_cases hk0 : key = 0
            · have hk0' : (key = 0) = True := eq_true hk0
              rw [if_neg (by simp [hk0])] at d2
              simp (maxDischargeDepth := 30) only [aft_mk, hubc, d4, c1, c2, c3, f1, f5, f6, f7, f8, f28, f29, f30, l3, s1, load_at0 hP3, w4, hk', hk0', amL, args0, Nat.reduceEqDiff, reduceCtorEq, ↓reduceIte, Nat.reduceAdd, resultsA, results1, Int.reduceNeg, splice, Nat.reduceLeDiff, part, fillA, fillE, Nat.reduceLT]
              refine hfin _ ?_ ?_ ?_ ?_ ?_ ?_ ?_ ?_
              all_goals simp (maxDischargeDepth := 30) only [f1, f5, f6, f7, f8, f28, f29, f30, d2, amL, args0, Nat.reduceEqDiff, reduceCtorEq, ↓reduceIte, Nat.reduceAdd, resultsA, results1, Int.reduceNeg, splice, Nat.reduceLeDiff, part, fillA, fillE, Nat.reduceLT]
            · rw [if_pos ⟨hk, hk0⟩] at d2
              simp (maxDischargeDepth := 30) only [aft_mk, hubc, d4, c1, c2, c3, f1, f5, f6, f7, f8, f28, f29, f30, l3, s1, load_at0 hP3, w4, hk', hk0, amL, args0, Nat.reduceEqDiff, reduceCtorEq, ↓reduceIte, Nat.reduceAdd, resultsA, results1, Int.reduceNeg, splice, Nat.reduceLeDiff, part, fillA, fillE, Nat.reduceLT]
              refine hfin _ ?_ ?_ ?_ ?_ ?_ ?_ ?_ ?_
              all_goals simp (maxDischargeDepth := 30) only [f1, f5, f6, f7, f8, f28, f29, f30, d2, amL, args0, Nat.reduceEqDiff, reduceCtorEq, ↓reduceIte, Nat.reduceAdd, resultsA, results1, Int.reduceNeg, splice, Nat.reduceLeDiff, part, fillA, fillE, Nat.reduceLT]
          · rw [if_neg (fun e => hk e.1)] at d2
            simp (maxDischargeDepth := 30) only [aft_mk, hubc, d4, c1, c2, c3, f1, f5, f6, f7, f8, f28, f29, f30, l3, s1, load_at0 hP3, w4, hk, amL, args0, Nat.reduceEqDiff, reduceCtorEq, ↓reduceIte, Nat.reduceAdd, resultsA, results1, Int.reduceNeg, splice, Nat.reduceLeDiff, part, fillA, fillE, Nat.reduceLT]
            refine hfin _ ?_ ?_ ?_ ?_ ?_ ?_ ?_ ?_
            all_goals simp (maxDischargeDepth := 30) only [f1, f5, f6, f7, f8, f28, f29, f30, d2, amL, args0, Nat.reduceEqDiff, reduceCtorEq, ↓reduceIte, Nat.reduceAdd, resultsA, results1, Int.reduceNeg, splice, Nat.reduceLeDiff, part, fillA, fillE, Nat.reduceLT]
        | false =>
          rw [hdel] at l1 hT1 hu1 hg1 hP1 ld
          simp (maxDischargeDepth := 30) only [h, f1, f5, f28, f29, f30, f6, f7, f8, ix, ld, h60', l1, amL, args0, Nat.reduceEqDiff, reduceCtorEq, ↓reduceIte, Nat.reduceAdd, resultsA, results1, Int.reduceNeg, splice, Nat.reduceLeDiff, part, fillA, fillE, Nat.reduceLT]
          generalize M ++ [Blk.cells true [[V.bool false, V.int .u64 s.key, V.int .u64 s.val]]] = M1 at hT1 hu1 hg1 hP1
          simp (maxDischargeDepth := 30) only [load_at0 hT1, load_at0 hP1, amL, args0, Nat.reduceEqDiff, reduceCtorEq, ↓reduceIte, Nat.reduceAdd, resultsA, results1, Int.reduceNeg, splice, Nat.reduceLeDiff, part, fillA, fillE, Nat.reduceLT]
          refine (Get_spec s.key hu1 (by omega)).mono ?_
          rintro _ M2 ⟨rfl, hg2⟩
          have hT2 := hg2.get hT1
          have hP2 := hg2.get hP1
          have hu2 := hu1.grow hg2
          have hgm2 := hg1.trans hg2
          simp (maxDischargeDepth := 30) only [aft_mk, load_at0 hT2, load_at0 hP2, f5, amL, args0, Nat.reduceEqDiff, reduceCtorEq, ↓reduceIte, Nat.reduceAdd, resultsA, results1, Int.reduceNeg, splice, Nat.reduceLeDiff, part, fillA, fillE, Nat.reduceLT]
          refine (Put_spec s.key s.val hu2 (by omega)).mono ?_
          rintro _ M3 ⟨ub, rfl, hg3, hub⟩
          have hubc := hub.1.cell
          have hub1 := hub.1
          clear hub
          have hT3 : (M3 ++ [Blk.cells true [[ub]]])[m.length]? = some (.cells true [[u]]) := getElem?_grow (hg3.get hT2)
          have hP3 : (M3 ++ [Blk.cells true [[ub]]])[M.length]? = some (.cells true [[V.bool false, V.int .u64 s.key, V.int .u64 s.val]]) := getElem?_grow (hg3.get hP2)
          have hu3 : Sl (M3 ++ [Blk.cells true [[ub]]]) u 3 (encs t) := (hu2.grow hg3).app
          have hgm3 : Grow m (M3 ++ [Blk.cells true [[ub]]]) := (hgm2.trans hg3).app
          have fin : ∀ (fr' : Frame) (M4 : Mem) (u' : V) (t' : List Slot), fr' 1 = .int .u64 key → fr' 5 = .ptr m.length 0 0 → fr' 6 = .int .u64 (getL t' key).1 → fr' 7 = .int .i64 (getL t' key).2 → fr' 8 = .int .i64 (cnt 1 t') → fr' 28 = w → fr' 29 = .int .i64 l.length → fr' 30 = .int .i64 i → M4[m.length]? = some (.cells true [[u']]) → Sl M4 u' 3 (encs t') → validB t' = true → Grow m M4 → W S law10_EphemMap_j2 fr' M4 (outOf 1 (andThen S (.region [⟨(some 140), none, (.bin .add (.t 30) (.c (.int .i64 1))), none, []⟩, ⟨(some 30), none, (.mv (.t 140)), none, []⟩]) (fun e fr' m' => match e with | .normal => ∃ j, j < l.length - i ∧ I j fr' m' | e => outOf 0 (andThen S (.seq (.region [⟨(some 4), none, (.mv (.c (.bool true))), none, []⟩]) .ret) (bodyQ [.t 4] (fun r m' => r = .bool true ∧ Grow m m'))) e fr' m'))) := by
            intro fr' M4 u' t' a1 a5 a6 a7 a8 a28 a29 a30 hT4 hu4 hval' hgm4
            refine map_tail a1 a5 a6 a7 a8 hT4 hu4 hval' ?_
            intro fr2 M3 b1 b5 b6 b7 b8 b28 b29 b30 hg3
            simp (maxDischargeDepth := 30) only [b30, a30, w1, amL, args0, Nat.reduceEqDiff, reduceCtorEq, ↓reduceIte, Nat.reduceAdd, resultsA, results1, Int.reduceNeg, splice, Nat.reduceLeDiff, part, fillA, fillE, Nat.reduceLT]
            refine ⟨_, ?_, i + 1, u', t', by omega, by omega, rfl, ?_, ?_, ?_, ?_, ?_, ?_, ?_, ?_, hgm4.trans hg3, hg3.get hT4, hu4.grow hg3, hval'⟩
            · omega
            all_goals simp (maxDischargeDepth := 30) only [b1, b5, b6, b7, b8, b28, b29, b30, a1, a5, a6, a7, a8, a28, a29, a30, amL, args0, Nat.reduceEqDiff, reduceCtorEq, ↓reduceIte, Nat.reduceAdd, resultsA, results1, Int.reduceNeg, splice, Nat.reduceLeDiff, part, fillA, fillE, Nat.reduceLT]
          by_cases h0 : (putL t s.key s.val).2 = 0
          · have hk0 : s.key ≠ 0 := by
              intro e
              simp [putL, hval, e] at h0
            obtain ⟨p1, p2, p3⟩ := get_put (key := key) hval hk0 h0
            have s1 := store_at0 (x := .agg [ub]) (j := 0) (n := 1) hT3 rfl (by simp) (by simp [cells_agg, hubc])
            have hml := (List.getElem?_eq_some_iff.1 hT3).1
            have l3 := fun k => load_at0 (M := M3 ++ [Blk.cells true [[ub]]]) (b := M3.length) (own := true) (el := [ub]) (k := k) (j := 0) (by simp)
            simp only [cells_agg, splice, List.take_zero, List.nil_append, List.cons_append, List.length_cons, List.length_nil, Nat.zero_add, List.drop_succ_cons, List.drop_nil] at s1
            have hub3 : Sl ((M3 ++ [Blk.cells true [[ub]]]).set m.length (.cells true [[ub]])) ub 3 (encs (putL t s.key s.val).1) := (hub1.app).set_other encs_z hT3 (by simp) rfl
            have hT4 : ((M3 ++ [Blk.cells true [[ub]]]).set m.length (.cells true [[ub]]))[m.length]? = some (.cells true [[ub]]) := List.getElem?_set_self hml
            have hP4 : ((M3 ++ [Blk.cells true [[ub]]]).set m.length (.cells true [[ub]]))[M.length]? = some (.cells true [[V.bool false, V.int .u64 s.key, V.int .u64 s.val]]) := by
              rw [List.getElem?_set_ne (by omega)]
              exact hP3
            have hgm4 : Grow m ((M3 ++ [Blk.cells true [[ub]]]).set m.length (.cells true [[ub]])) := hgm3.set (Nat.le_refl _) _
            have hcl := cnt_le 1 t
            have j1 : ∀ (fr' : Frame), fr' 1 = .int .u64 key → fr' 5 = .ptr m.length 0 0 → fr' 6 = .int .u64 (getL t key).1 → fr' 7 = .int .i64 (getL t key).2 → fr' 8 = .int .i64 (cnt 1 (putL t s.key s.val).1) → fr' 10 = .ptr M.length 0 0 → fr' 28 = w → fr' 29 = .int .i64 l.length → fr' 30 = .int .i64 i → W S law10_EphemMap_j1 fr' ((M3 ++ [Blk.cells true [[ub]]]).set m.length (.cells true [[ub]])) (andThen S law10_EphemMap_j2 (outOf 1 (andThen S (.region [⟨(some 140), none, (.bin .add (.t 30) (.c (.int .i64 1))), none, []⟩, ⟨(some 30), none, (.mv (.t 140)), none, []⟩]) (fun e fr' m' => match e with | .normal => ∃ j, j < l.length - i ∧ I j fr' m' | e => outOf 0 (andThen S (.seq (.region [⟨(some 4), none, (.mv (.c (.bool true))), none, []⟩]) .ret) (bodyQ [.t 4] (fun r m' => r = .bool true ∧ Grow m m'))) e fr' m')))) := by
              intro fr' a1 a5 a6 a7 a8 a10 a28 a29 a30
              unfold law10_EphemMap_j1
              by_cases hk : s.key = key
              · have hk' : (s.key = key) = True := eq_true hk
                rw [if_pos hk.symm] at p2
                simp (maxDischargeDepth := 30) only [a1, a5, a6, a7, a8, a10, a28, a29, a30, load_at0 hP4, hk', amL, args0, Nat.reduceEqDiff, reduceCtorEq, ↓reduceIte, Nat.reduceAdd, resultsA, results1, Int.reduceNeg, splice, Nat.reduceLeDiff, part, fillA, fillE, Nat.reduceLT]
                refine fin _ _ ub _ ?_ ?_ ?_ ?_ ?_ ?_ ?_ ?_ hT4 hub3 p1 hgm4
                all_goals simp (maxDischargeDepth := 30) only [a1, a5, a6, a7, a8, a28, a29, a30, p2, amL, args0, Nat.reduceEqDiff, reduceCtorEq, ↓reduceIte, Nat.reduceAdd, resultsA, results1, Int.reduceNeg, splice, Nat.reduceLeDiff, part, fillA, fillE, Nat.reduceLT]
              · rw [if_neg (Ne.symm hk)] at p2
                simp (maxDischargeDepth := 30) only [a1, a5, a6, a7, a8, a10, a28, a29, a30, load_at0 hP4, hk, amL, args0, Nat.reduceEqDiff, reduceCtorEq, ↓reduceIte, Nat.reduceAdd, resultsA, results1, Int.reduceNeg, splice, Nat.reduceLeDiff, part, fillA, fillE, Nat.reduceLT]
                refine fin _ _ ub _ ?_ ?_ ?_ ?_ ?_ ?_ ?_ ?_ hT4 hub3 p1 hgm4
                all_goals simp (maxDischargeDepth := 30) only [a1, a5, a6, a7, a8, a28, a29, a30, p2, amL, args0, Nat.reduceEqDiff, reduceCtorEq, ↓reduceIte, Nat.reduceAdd, resultsA, results1, Int.reduceNeg, splice, Nat.reduceLeDiff, part, fillA, fillE, Nat.reduceLT]
            have h0' : ((putL t s.key s.val).2 = 0) = True := eq_true h0
            by_cases h3 : (getL t s.key).2 = 3
            · have h3' : ((getL t s.key).2 = 3) = True := eq_true h3
              rw [if_pos h3] at p3
              have w5 : IntKind.i64.wrap ((cnt 1 t : Int) + 1) = (cnt 1 (putL t s.key s.val).1 : Int) := by rw [p3, wrap_i64] <;> omega
              simp (maxDischargeDepth := 30) only [aft_mk, hubc, h0', h3', f1, f5, f6, f7, f8, f28, f29, f30, l3, s1, w5, amL, args0, Nat.reduceEqDiff, reduceCtorEq, ↓reduceIte, Nat.reduceAdd, resultsA, results1, Int.reduceNeg, splice, Nat.reduceLeDiff, part, fillA, fillE, Nat.reduceLT]
              refine j1 _ ?_ ?_ ?_ ?_ ?_ ?_ ?_ ?_ ?_
              all_goals simp (maxDischargeDepth := 30) only [f1, f5, f6, f7, f8, f28, f29, f30, amL, args0, Nat.reduceEqDiff, reduceCtorEq, ↓reduceIte, Nat.reduceAdd, resultsA, results1, Int.reduceNeg, splice, Nat.reduceLeDiff, part, fillA, fillE, Nat.reduceLT]
            · rw [if_neg h3, Int.add_zero] at p3
              simp (maxDischargeDepth := 30) only [aft_mk, hubc, h0', h3, f1, f5, f6, f7, f8, f28, f29, f30, l3, s1, amL, args0, Nat.reduceEqDiff, reduceCtorEq, ↓reduceIte, Nat.reduceAdd, resultsA, results1, Int.reduceNeg, splice, Nat.reduceLeDiff, part, fillA, fillE, Nat.reduceLT]
              refine j1 _ ?_ ?_ ?_ ?_ ?_ ?_ ?_ ?_ ?_
              all_goals simp (maxDischargeDepth := 30) only [f1, f5, f6, f7, f8, f28, f29, f30, p3, amL, args0, Nat.reduceEqDiff, reduceCtorEq, ↓reduceIte, Nat.reduceAdd, resultsA, results1, Int.reduceNeg, splice, Nat.reduceLeDiff, part, fillA, fillE, Nat.reduceLT]
          · simp (maxDischargeDepth := 30) only [aft_mk, hubc, h0, f1, f5, f6, f7, f8, f28, f29, f30, amL, args0, Nat.reduceEqDiff, reduceCtorEq, ↓reduceIte, Nat.reduceAdd, resultsA, results1, Int.reduceNeg, splice, Nat.reduceLeDiff, part, fillA, fillE, Nat.reduceLT]
            refine fin _ _ u t ?_ ?_ ?_ ?_ ?_ ?_ ?_ ?_ hT3 hu3 hval hgm3
            all_goals simp (maxDischargeDepth := 30) only [f1, f5, f6, f7, f8, f28, f29, f30, amL, args0, Nat.reduceEqDiff, reduceCtorEq, ↓reduceIte, Nat.reduceAdd, resultsA, results1, Int.reduceNeg, splice, Nat.reduceLeDiff, part, fillA, fillE, Nat.reduceLT]
      · simp (maxDischargeDepth := 30) only [h, f1, f5, f28, f29, f30, f6, f7, f8, amL, args0, Nat.reduceEqDiff, reduceCtorEq, ↓reduceIte, Nat.reduceAdd, resultsA, results1, Int.reduceNeg, splice, Nat.reduceLeDiff, part, fillA, fillE, Nat.reduceLT]
        exact hg
    · refine ⟨0, .nils, [], by omega, by omega, rfl, by simp (maxDischargeDepth := 30) only [f1, amL, args0, Nat.reduceEqDiff, reduceCtorEq, ↓reduceIte, Nat.reduceAdd, resultsA, results1, Int.reduceNeg, splice, Nat.reduceLeDiff, part, fillA, fillE, Nat.reduceLT], by simp (maxDischargeDepth := 30) only [f5, amL, args0, Nat.reduceEqDiff, reduceCtorEq, ↓reduceIte, Nat.reduceAdd, resultsA, results1, Int.reduceNeg, splice, Nat.reduceLeDiff, part, fillA, fillE, Nat.reduceLT], by simp (maxDischargeDepth := 30) only [amL, args0, Nat.reduceEqDiff, reduceCtorEq, ↓reduceIte, Nat.reduceAdd, resultsA, results1, Int.reduceNeg, splice, Nat.reduceLeDiff, part, fillA, fillE, Nat.reduceLT], by simp (maxDischargeDepth := 30) only [amL, args0, Nat.reduceEqDiff, reduceCtorEq, ↓reduceIte, Nat.reduceAdd, resultsA, results1, Int.reduceNeg, splice, Nat.reduceLeDiff, part, fillA, fillE, Nat.reduceLT], by simp (maxDischargeDepth := 30) only [amL, args0, Nat.reduceEqDiff, reduceCtorEq, ↓reduceIte, Nat.reduceAdd, resultsA, results1, Int.reduceNeg, splice, Nat.reduceLeDiff, part, fillA, fillE, Nat.reduceLT]; rfl, by simp (maxDischargeDepth := 30) only [f6, amL, args0, Nat.reduceEqDiff, reduceCtorEq, ↓reduceIte, Nat.reduceAdd, resultsA, results1, Int.reduceNeg, splice, Nat.reduceLeDiff, part, fillA, fillE, Nat.reduceLT], by simp (maxDischargeDepth := 30) only [f7, amL, args0, Nat.reduceEqDiff, reduceCtorEq, ↓reduceIte, Nat.reduceAdd, resultsA, results1, Int.reduceNeg, splice, Nat.reduceLeDiff, part, fillA, fillE, Nat.reduceLT], by simp (maxDischargeDepth := 30) only [amL, args0, Nat.reduceEqDiff, reduceCtorEq, ↓reduceIte, Nat.reduceAdd, resultsA, results1, Int.reduceNeg, splice, Nat.reduceLeDiff, part, fillA, fillE, Nat.reduceLT]; rfl, (Grow.refl _).app, by simp, ⟨rfl, rfl⟩, rfl⟩
  by_cases hk0 : key = 0
  · have hk0' : (key = 0) = True := eq_true hk0
    simp (maxDischargeDepth := 30) only [hk0', amL, args0, Nat.reduceEqDiff, reduceCtorEq, ↓reduceIte, Nat.reduceAdd, resultsA, results1, Int.reduceNeg, splice, Nat.reduceLeDiff, part, fillA, fillE, Nat.reduceLT]
    exact main _ (by simp (maxDischargeDepth := 30) only [amL, args0, Nat.reduceEqDiff, reduceCtorEq, ↓reduceIte, Nat.reduceAdd, resultsA, results1, Int.reduceNeg, splice, Nat.reduceLeDiff, part, fillA, fillE, Nat.reduceLT]) (by simp (maxDischargeDepth := 30) only [amL, args0, Nat.reduceEqDiff, reduceCtorEq, ↓reduceIte, Nat.reduceAdd, resultsA, results1, Int.reduceNeg, splice, Nat.reduceLeDiff, part, fillA, fillE, Nat.reduceLT]) (by simp (maxDischargeDepth := 30) only [amL, args0, Nat.reduceEqDiff, reduceCtorEq, ↓reduceIte, Nat.reduceAdd, resultsA, results1, Int.reduceNeg, splice, Nat.reduceLeDiff, part, fillA, fillE, Nat.reduceLT]) (by simp (maxDischargeDepth := 30) only [amL, args0, Nat.reduceEqDiff, reduceCtorEq, ↓reduceIte, Nat.reduceAdd, resultsA, results1, Int.reduceNeg, splice, Nat.reduceLeDiff, part, fillA, fillE, Nat.reduceLT]; simp [getL, hk0]; rfl) (by simp (maxDischargeDepth := 30) only [amL, args0, Nat.reduceEqDiff, reduceCtorEq, ↓reduceIte, Nat.reduceAdd, resultsA, results1, Int.reduceNeg, splice, Nat.reduceLeDiff, part, fillA, fillE, Nat.reduceLT]; simp [getL, hk0]; rfl)
  · simp (maxDischargeDepth := 30) only [hk0, amL, args0, Nat.reduceEqDiff, reduceCtorEq, ↓reduceIte, Nat.reduceAdd, resultsA, results1, Int.reduceNeg, splice, Nat.reduceLeDiff, part, fillA, fillE, Nat.reduceLT]
    exact main _ (by simp (maxDischargeDepth := 30) only [amL, args0, Nat.reduceEqDiff, reduceCtorEq, ↓reduceIte, Nat.reduceAdd, resultsA, results1, Int.reduceNeg, splice, Nat.reduceLeDiff, part, fillA, fillE, Nat.reduceLT]) (by simp (maxDischargeDepth := 30) only [amL, args0, Nat.reduceEqDiff, reduceCtorEq, ↓reduceIte, Nat.reduceAdd, resultsA, results1, Int.reduceNeg, splice, Nat.reduceLeDiff, part, fillA, fillE, Nat.reduceLT]) (by simp (maxDischargeDepth := 30) only [amL, args0, Nat.reduceEqDiff, reduceCtorEq, ↓reduceIte, Nat.reduceAdd, resultsA, results1, Int.reduceNeg, splice, Nat.reduceLeDiff, part, fillA, fillE, Nat.reduceLT]) (by simp (maxDischargeDepth := 30) only [amL, args0, Nat.reduceEqDiff, reduceCtorEq, ↓reduceIte, Nat.reduceAdd, resultsA, results1, Int.reduceNeg, splice, Nat.reduceLeDiff, part, fillA, fillE, Nat.reduceLT]; simp [getL, hk0, findL]; rfl) (by simp (maxDischargeDepth := 30) only [amL, args0, Nat.reduceEqDiff, reduceCtorEq, ↓reduceIte, Nat.reduceAdd, resultsA, results1, Int.reduceNeg, splice, Nat.reduceLeDiff, part, fillA, fillE, Nat.reduceLT]; simp [getL, hk0, findL]; rfl)
end Go.AM.G
