/- Part of the proof: contracts of functions of the given program on an abstract machine. -/
import Derived.Test.YtdfbfcohindpnaaEphemH
import Derived.Test.YtdfbfcohindpnaaAmDraw
set_option linter.unusedVariables false
set_option linter.unusedSimpArgs false
set_option maxRecDepth 1000000
namespace Go.AM.G
open Go Go.AM
theorem Xfr0 : ToldFr X0 := by
  intro f t h call _ a m v m' id blk hd e
  unfold X0 at h
  split at h
  · cases h
    dsimp only at e ⊢
    split at e
    · split at e
      · rename_i hb
        cases e
        exact ⟨hd, by simp only [if_pos hb]⟩
      · cases e
    · cases e
  · cases h
theorem tSort_some {a : List V} {m : Mem} {v : V} {m' : Mem} (e : tSort a m = some (v, m')) : (a = [.nils, .fn n_ephem_All_2 [] []] ∧ v = .tup [] ∧ m' = m) ∨ ∃ b cap ex g els d, a = [.slice b 0 (List.length d) cap ex 3, .fn g [] []] ∧ m[b]? = some (.cells true els) ∧ g = n_ephem_All_2 ∧ d.length < 4611686018427387904 ∧ els.take d.length = encs d ∧ v = .tup [] ∧ m' = m.set b (.cells true (encs (srtL d) ++ els.drop d.length)) := by
  unfold tSort at e
  split at e
  · rename_i m0 b len cap ex g
    split at e
    · rename_i els hb
      split at e
      · rename_i hc
        obtain ⟨h1, h2, h3, h4⟩ := hc
        cases e
        have hl : ((els.take len).map dec).length = len := by simp; omega
        have he : encs ((els.take len).map dec) = els.take len := by
          rw [encs, List.map_map]
          conv => rhs; rw [← List.map_id (els.take len)]
          refine List.map_congr_left fun el hel => ?_
          exact enc_dec (List.all_eq_true.1 h4 el hel)
        exact .inr ⟨b, cap, ex, g, els, (els.take len).map dec, by rw [hl], hb, h1, by rw [hl]; exact h3, by rw [hl, he], rfl, by rw [hl]⟩
      · cases e
    · cases e
  · split at e
    · rename_i hg
      cases e
      exact .inl ⟨by rw [hg], rfl, rfl⟩
    · cases e
  · cases e
theorem tSort_eq {b cap : Nat} {ex : Bool} {els : List (List V)} {d : List Slot} {m : Mem} (hb : m[b]? = some (.cells true els)) (hd : d.length < 4611686018427387904) (he : els.take d.length = encs d) : tSort [.slice b 0 d.length cap ex 3, .fn n_ephem_All_2 [] []] m = some (.tup [], m.set b (.cells true (encs (srtL d) ++ els.drop d.length))) := by
  have hl : d.length ≤ els.length := by
    have := congrArg List.length he
    simp only [List.length_take, List.length_map] at this
    omega
  have ha : (els.take d.length).all isEl = true := by
    rw [he, List.all_eq_true]
    intro x hx
    obtain ⟨s, _, rfl⟩ := List.mem_map.1 hx
    rfl
  have hm : (els.take d.length).map dec = d := by
    rw [he, encs, List.map_map]
    conv => rhs; rw [← List.map_id d]
    exact List.map_congr_left fun s _ => dec_enc s
  simp only [tSort, hb, hm]
  exact if_pos ⟨trivial, hl, hd, ha⟩
theorem Xfr : ToldFr X := by
  intro f t h call hc a m v m' id blk hd e
  unfold X at h
  split at h
  · cases h
    dsimp only at e ⊢
    cases a with
    | nil => cases e; exact ⟨hd, rfl⟩
    | cons x y => cases e
  split at h
  · cases h
    dsimp only at e ⊢
    rcases tSort_some e with ⟨rfl, rfl, rfl⟩ | ⟨b, cap, ex, g, els, d, rfl, hb, rfl, h3, h4, rfl, rfl⟩
    · exact ⟨hd, rfl⟩
    have hne : b ≠ id := by
      rintro rfl
      rw [hd] at hb
      cases hb
    refine ⟨by rw [List.getElem?_set_ne hne]; exact hd, ?_⟩
    rw [tSort_eq (by rw [List.getElem?_set_ne (Ne.symm hne)]; exact hb) h3 h4, List.set_comm _ _ hne]
  · exact Xfr0 f t h call hc a m v m' id blk hd e
def isT : Option (V × Mem) → Bool
  | some (.bool true, _) => true
  | _ => false
set_option maxHeartbeats 0 in
theorem lives_run : isT (callN (fun f => tab.lookup f) X0 70 n_law10_lives [] []) = true := by kernel_rfl
def isU : Option (V × Mem) → Bool
  | some (.tup [], _) => true
  | _ => false
theorem sort_nil_run : isU (callN (fun f => tab.lookup f) X0 20 n_slices_SortFunc_EphSlot [.nils, .fn n_ephem_All_2 [] []] []) = true := by kernel_rfl
theorem lives_spec {m : Mem} : C S n_law10_lives [] m (fun r m' => r = .bool true ∧ m = m') := ⟨1, _, _, rfl, rfl, rfl⟩
end Go.AM.G

set_option maxRecDepth 100000
namespace Go.AM.G
open Go Go.AM
/-- a table of its own, between two places. -/
def Tab (M : Mem) (lo hi : Nat) (u : V) : Prop := u = .nils ∨ ∃ b cap ex t, lo ≤ b ∧ b < hi ∧ u = .slice b 0 (t : List Slot).length cap ex 3 ∧ M[b]? = some (.cells true (encs t)) ∧ t.length < 2 ^ 43
theorem Tab.app {M g : Mem} {lo hi : Nat} {u : V} (h : Tab M lo hi u) : Tab (M ++ g) lo hi u := by
  rcases h with h | ⟨b, cap, ex, t, h1, h2, h3, h4, h5⟩
  · exact .inl h
  · exact .inr ⟨b, cap, ex, t, h1, h2, h3, getElem?_grow h4, h5⟩
theorem Tab.set {M : Mem} {lo hi b' : Nat} {u : V} {t1 t2 : List Slot} (h : Tab M lo hi u) (hb : M[b']? = some (.cells true (encs t1))) (hl : t2.length = t1.length) : Tab (M.set b' (.cells true (encs t2))) lo hi u := by
  have hlt := (List.getElem?_eq_some_iff.1 hb).1
  rcases h with h | ⟨b, cap, ex, t, h1, h2, h3, h4, h5⟩
  · exact .inl h
  · by_cases e : b = b'
    · subst e
      rw [h4] at hb
      have e2 : t.length = t1.length := by
        have := congrArg (fun x : Option Blk => match x with | some (.cells _ els) => els.length | _ => 0) hb
        simpa using this
      exact .inr ⟨b, cap, ex, t2, h1, h2, by rw [hl, ← e2]; exact h3, List.getElem?_set_self hlt, by omega⟩
    · exact .inr ⟨b, cap, ex, t, h1, h2, h3, by rw [List.getElem?_set_ne (Ne.symm e)]; exact h4, h5⟩
theorem Fresh.tab {B : Nat} {M M' : Mem} {u : V} {l : List Slot} (h : Fresh B M u 3 (encs l)) {lo hi : Nat} (hlo : lo ≤ B) (hM : M.length ≤ hi) (hg : Grow M M') (hl : l.length < 2 ^ 43) : Tab M' lo hi u := by
  rcases h.cases with ⟨h, _⟩ | ⟨b, cap, ex, h1, h2, h3⟩
  · exact .inl h
  · have := (List.getElem?_eq_some_iff.1 h3).1
    exact .inr ⟨b, cap, ex, l, by omega, by omega, by simpa using h2, hg.get h3, hl⟩
theorem putL_len {l : List Slot} {key val : Int} : (putL l key val).1.length ≤ l.length + 64 := by
  unfold putL
  split
  · split
    · simp
    · split
      · split
        · rename_i h
          have := (anewL_spec h).1
          simp only [layL_length]
          omega
        · simp
      · simp [layL_length]
  · simp
theorem delL_len {l : List Slot} {keys : List Int} : (delL l keys).1.length ≤ l.length := by
  unfold delL
  split
  · rename_i h
    exact Nat.le_of_eq (del_fold (t := (l, 0)) ((valid_cases h).imp id And.left)).1
  · simp
theorem own_spec {m : Mem} {v : V} {l : List Slot} (key : Int) (hv : Sl m v 3 (encs l)) (hl : l.length < 5864062014806) : C S n_law10_EphemOwn [.agg [v], .int .u64 key] m (fun r m' => r = .bool true ∧ Grow m m') := by
  refine C_body rfl rfl rfl ?_
  unfold law10_EphemOwn
  have hcell := hv.cell
  simp (maxDischargeDepth := 30) only [hcell, amL, args0, Nat.reduceEqDiff, reduceCtorEq, ↓reduceIte, Nat.reduceAdd, resultsA, results1, Int.reduceNeg, splice, Nat.reduceLeDiff, part, fillA, fillE, Nat.reduceLT]
  refine lives_spec.mono ?_
  rintro _ _ ⟨rfl, rfl⟩
  simp (maxDischargeDepth := 30) only [aft_mk, hcell, amL, args0, Nat.reduceEqDiff, reduceCtorEq, ↓reduceIte, Nat.reduceAdd, resultsA, results1, Int.reduceNeg, splice, Nat.reduceLeDiff, part, fillA, fillE, Nat.reduceLT]
  refine (Copy_spec hv.app hl).mono ?_
  rintro _ _ ⟨kv, rfl, ⟨g2, rfl⟩, hkv⟩
  have hkc := hkv.1.cell
  simp (maxDischargeDepth := 30) only [aft_mk, hcell, hkc, amL, args0, Nat.reduceEqDiff, reduceCtorEq, ↓reduceIte, Nat.reduceAdd, resultsA, results1, Int.reduceNeg, splice, Nat.reduceLeDiff, part, fillA, fillE, Nat.reduceLT]
  generalize hMk : m ++ [Blk.cells true [[v]]] ++ g2 ++ [Blk.cells true [[kv]]] = Mk
  have hgk : Grow m Mk := by rw [← hMk]; exact (Grow.refl _).app.app.app
  have hvk : Sl Mk v 3 (encs l) := hv.grow hgk
  have htk : Mk[m.length]? = some (.cells true [[v]]) := by
    rw [← hMk]
    exact getElem?_grow (getElem?_grow (by simp))
  generalize hkp : (m ++ [Blk.cells true [[v]]] ++ g2).length = kp
  have hkk : Mk[kp]? = some (.cells true [[kv]]) := by rw [← hMk, ← hkp]; simp
  have hkvk : Sl Mk kv 3 (encs l) := by rw [← hMk]; exact hkv.1.app
  clear hMk hkp hkv
  refine (Put_spec key 1 hvk hl).mono ?_
  rintro _ _ ⟨ua, rfl, ⟨g3, rfl⟩, hua⟩
  have huac := hua.1.cell
  simp (maxDischargeDepth := 30) only [aft_mk, huac, load_at0 htk, amL, args0, Nat.reduceEqDiff, reduceCtorEq, ↓reduceIte, Nat.reduceAdd, resultsA, results1, Int.reduceNeg, splice, Nat.reduceLeDiff, part, fillA, fillE, Nat.reduceLT]
  have hw : ∀ M : Mem, Sl (M ++ [Blk.cells true [[V.int .u64 key]]]) (.slice M.length 0 1 1 true 1) 1 (ints [key]) := fun M => Sl.mk (els := ints [key]) (own := true) (by simp)
  refine (Del_spec (keys := [key]) (hvk.app.app.app) (hw _) hl (by simp)).mono ?_
  rintro _ _ ⟨ub, rfl, ⟨g4, rfl⟩, hub⟩
  have hubc := hub.1.cell
  simp (maxDischargeDepth := 30) only [aft_mk, huac, hubc, amL, args0, Nat.reduceEqDiff, reduceCtorEq, ↓reduceIte, Nat.reduceAdd, resultsA, results1, Int.reduceNeg, splice, Nat.reduceLeDiff, part, fillA, fillE, Nat.reduceLT]
  generalize hM1 : Mk ++ g3 ++ [Blk.cells true [[ua]]] ++ [Blk.cells true [[V.int IntKind.u64 key]]] ++ g4 ++ [Blk.cells true [[ub]]] = M1
  have hgM1 : Grow Mk M1 := by rw [← hM1]; exact (Grow.refl _).app.app.app.app.app
  have hta : Tab (M1 ++ [Blk.cells true [[ua], [ub]]]) Mk.length M1.length ua := by
    refine (Fresh.tab hua (M' := M1) (hi := M1.length) (Nat.le_refl _) ?_ ?_ ?_).app
    · rw [← hM1]; simp
    · rw [← hM1]; exact (Grow.refl _).app.app.app.app
    · have := putL_len (l := l) (key := key) (val := 1); omega
  have htb : Tab (M1 ++ [Blk.cells true [[ua], [ub]]]) Mk.length M1.length ub := by
    refine (Fresh.tab hub (M' := M1) (hi := M1.length) ?_ ?_ ?_ ?_).app
    · simp
    · rw [← hM1]; simp
    · rw [← hM1]; exact (Grow.refl _).app
    · have := delL_len (l := l) (keys := [key]); omega
  have hkM : Mk.length ≤ M1.length := hgM1.len
  have hLb : (M1 ++ [Blk.cells true [[ua], [ub]]])[M1.length]? = some (.cells true [[ua], [ub]]) := by simp
  have hg1 : Grow Mk (M1 ++ [Blk.cells true [[ua], [ub]]]) := hgM1.app
  generalize M1 ++ [Blk.cells true [[ua], [ub]]] = M2 at hta htb hLb hg1
  generalize M1.length = L at hta htb hLb hkM
  clear hM1 hgM1 hub hua hw
  let I := fun (n : Nat) (fr : Frame) (M : Mem) => ∃ i : Nat, i ≤ 2 ∧ n = 2 - i ∧ fr 2 = .ptr m.length 0 0 ∧ fr 5 = .ptr kp 0 0 ∧ fr 34 = .slice L 0 2 2 true 1 ∧ fr 35 = .int .i64 2 ∧ fr 36 = .int .i64 i ∧ Grow Mk M ∧ M[L]? = some (.cells true [[ua], [ub]]) ∧ Tab M Mk.length L ua ∧ Tab M Mk.length L ub
  refine W_loop I ?_ 2 ?_
  · rintro n fr M ⟨i, hi, rfl, f2, f5, f34, f35, f36, hg, hL, hta, htb⟩
    unfold law10_EphemOwn_l0
    simp (maxDischargeDepth := 30) only [f2, f5, f34, f35, f36, amL, args0, Nat.reduceEqDiff, reduceCtorEq, ↓reduceIte, Nat.reduceAdd, resultsA, results1, Int.reduceNeg, splice, Nat.reduceLeDiff, part, fillA, fillE, Nat.reduceLT]
    first | (refine O_split (by simp only [put_apply, Nat.reduceEqDiff, ↓reduceIte, reduceCtorEq]; rfl) (fun h => ?_) (fun h => ?_) <;> simp only [decide_eq_true_eq, decide_eq_false_iff_not, Decidable.not_not, Bool.and_eq_true, Bool.not_eq_true', Bool.not_eq_false'] at h) | (refine W_split (by simp only [get_t, put_apply, Nat.reduceEqDiff, ↓reduceIte, reduceCtorEq]; rfl) (fun h => ?_) (fun h => ?_) <;> simp only [decide_eq_true_eq, decide_eq_false_iff_not, Decidable.not_not, Bool.and_eq_true, Bool.not_eq_true', Bool.not_eq_false'] at h)
    · obtain ⟨u, hu, huc, htu⟩ : ∃ u, [[ua], [ub]][i]? = some [u] ∧ u.isCell = true ∧ Tab M Mk.length L u := by
        rcases (show i = 0 ∨ i = 1 by omega) with rfl | rfl
        · exact ⟨ua, rfl, huac, hta⟩
        · exact ⟨ub, rfl, hubc, htb⟩
      have ix : asIndex 1 (.slice L 0 2 2 true 1) (.int .i64 i) = some (.ptr L i 0) := by
        simp only [asIndex]
        rw [if_pos ⟨by omega, by omega, trivial⟩]
        simp
      have ld : loadV M (some 1) (.ptr L i 0) = some (.agg [u]) := by simp [loadV, hL, hu, part]
      have hLl := (List.getElem?_eq_some_iff.1 hL).1
      have w1 : IntKind.i64.wrap ((i : Int) + 1) = ((i + 1 : Nat) : Int) := by rw [wrap_i64] <;> omega
      obtain ⟨n, hn, hnb⟩ : ∃ n : Nat, asLen u = some (.int .i64 n) ∧ n < 2 ^ 62 := by
        rcases htu with rfl | ⟨b, cap, ex, t, _, _, rfl, _, hb5⟩
        · exact ⟨0, rfl, by decide⟩
        · exact ⟨t.length, rfl, by omega⟩
      simp (maxDischargeDepth := 30) only [h, f2, f5, f34, f35, f36, ix, ld, huc, hn, amL, args0, Nat.reduceEqDiff, reduceCtorEq, ↓reduceIte, Nat.reduceAdd, resultsA, results1, Int.reduceNeg, splice, Nat.reduceLeDiff, part, fillA, fillE, Nat.reduceLT]
      generalize hP : M.length = P
      have hLP : L < P := by omega
      have hMP : (M ++ [Blk.cells true [[u]]])[P]? = some (.cells true [[u]]) := by rw [← hP]; simp
      let J := fun (k : Nat) (fr : Frame) (M' : Mem) => ∃ j : Nat, j ≤ n ∧ k = n - j ∧ fr 2 = .ptr m.length 0 0 ∧ fr 5 = .ptr kp 0 0 ∧ fr 34 = .slice L 0 2 2 true 1 ∧ fr 35 = .int .i64 2 ∧ fr 36 = .int .i64 i ∧ fr 12 = .ptr P 0 0 ∧ fr 42 = .int .i64 n ∧ fr 43 = .int .i64 j ∧ Grow Mk M' ∧ M'[L]? = some (.cells true [[ua], [ub]]) ∧ Tab M' Mk.length L ua ∧ Tab M' Mk.length L ub ∧ Tab M' Mk.length L u ∧ M'[P]? = some (.cells true [[u]])
      refine W_loop J ?_ n ?_
      · rintro k fr M' ⟨j, hj, rfl, f2, f5, f34, f35, f36, f12, f42, f43, hg, hL, hta, htb, htu, hMP⟩
        unfold law10_EphemOwn_l1
        simp (maxDischargeDepth := 30) only [f2, f5, f34, f35, f36, f12, f42, f43, amL, args0, Nat.reduceEqDiff, reduceCtorEq, ↓reduceIte, Nat.reduceAdd, resultsA, results1, Int.reduceNeg, splice, Nat.reduceLeDiff, part, fillA, fillE, Nat.reduceLT]
        first | (refine O_split (by simp only [put_apply, Nat.reduceEqDiff, ↓reduceIte, reduceCtorEq]; rfl) (fun h2 => ?_) (fun h2 => ?_) <;> simp only [decide_eq_true_eq, decide_eq_false_iff_not, Decidable.not_not, Bool.and_eq_true, Bool.not_eq_true', Bool.not_eq_false'] at h2) | (refine W_split (by simp only [get_t, put_apply, Nat.reduceEqDiff, ↓reduceIte, reduceCtorEq]; rfl) (fun h2 => ?_) (fun h2 => ?_) <;> simp only [decide_eq_true_eq, decide_eq_false_iff_not, Decidable.not_not, Bool.and_eq_true, Bool.not_eq_true', Bool.not_eq_false'] at h2)
        · rcases htu with rfl | ⟨b, cap, ex, t, hb1, hb2, rfl, hb3, hb5⟩
          · simp only [asLen_nils, Option.some.injEq, V.int.injEq, true_and] at hn
            omega
          · simp only [asLen_slice, Option.some.injEq, V.int.injEq, true_and] at hn
            have hjt : j < t.length := by omega
            obtain ⟨s, hs⟩ : ∃ s, t[j]? = some s := ⟨_, List.getElem?_eq_getElem hjt⟩
            have hlt3 : (encs t).length = t.length := by simp
            have hsl : Sl M' (.slice b 0 t.length cap ex 3) 3 (encs t) := by rw [← hlt3]; exact Sl.mk hb3
            have ix2 := hsl.index (ki := .i64) (n := j) (by omega) (by omega)
            have ld2 := fun o k => hsl.load (o := o) (k := k) (encs_get hs)
            have st := fun y : Int => store_own1 (n := 1) (j := 2) (len := t.length) (cap := cap) (z := 3) (ex := ex) (x := .int .u64 y) hb3 (encs_get hs) (by simp [enc]) rfl rfl
            have e : ∀ y : Int, (encs t).set j [.int .u8 s.st, .int .u64 s.key, .int .u64 y] = encs (t.set j ⟨s.st, s.key, y⟩) := fun y => by simp [List.map_set, enc]
            have l1 := fun k => load_at0 (k := k) (j := 0) hMP
            have w3 : IntKind.i64.wrap ((j : Int) + 1) = ((j + 1 : Nat) : Int) := by rw [wrap_i64] <;> omega
            simp only [Int.toNat_natCast, enc, splice, cells_cell cell_int, List.take_succ_cons, List.take_zero, List.drop_succ_cons, List.drop_zero, List.drop_nil, List.length_cons, List.length_nil, List.cons_append, List.nil_append, Nat.zero_add, Nat.reduceAdd, e] at ix2 ld2 st
            simp (maxDischargeDepth := 30) only [h2, f2, f5, f34, f35, f36, f12, f42, f43, l1, ix2, ld2, st, w3, amL, args0, Nat.reduceEqDiff, reduceCtorEq, ↓reduceIte, Nat.reduceAdd, resultsA, results1, Int.reduceNeg, splice, Nat.reduceLeDiff, part, fillA, fillE, Nat.reduceLT]
            have hlen2 : ∀ y : Int, (t.set j ⟨s.st, s.key, y⟩).length = t.length := fun y => by simp
            have ne1 := enc_ne hMP hb3
            refine ⟨_, ?_, j + 1, by omega, rfl, ?_, ?_, ?_, ?_, ?_, ?_, ?_, ?_, hg.set hb1 _, ?_, hta.set hb3 (hlen2 _), htb.set hb3 (hlen2 _), ?_, ?_⟩
            · omega
            · simp (maxDischargeDepth := 30) only [f2, amL, args0, Nat.reduceEqDiff, reduceCtorEq, ↓reduceIte, Nat.reduceAdd, resultsA, results1, Int.reduceNeg, splice, Nat.reduceLeDiff, part, fillA, fillE, Nat.reduceLT]
            · simp (maxDischargeDepth := 30) only [f5, amL, args0, Nat.reduceEqDiff, reduceCtorEq, ↓reduceIte, Nat.reduceAdd, resultsA, results1, Int.reduceNeg, splice, Nat.reduceLeDiff, part, fillA, fillE, Nat.reduceLT]
            · simp (maxDischargeDepth := 30) only [f34, amL, args0, Nat.reduceEqDiff, reduceCtorEq, ↓reduceIte, Nat.reduceAdd, resultsA, results1, Int.reduceNeg, splice, Nat.reduceLeDiff, part, fillA, fillE, Nat.reduceLT]
            · simp (maxDischargeDepth := 30) only [f35, amL, args0, Nat.reduceEqDiff, reduceCtorEq, ↓reduceIte, Nat.reduceAdd, resultsA, results1, Int.reduceNeg, splice, Nat.reduceLeDiff, part, fillA, fillE, Nat.reduceLT]
            · simp (maxDischargeDepth := 30) only [f36, amL, args0, Nat.reduceEqDiff, reduceCtorEq, ↓reduceIte, Nat.reduceAdd, resultsA, results1, Int.reduceNeg, splice, Nat.reduceLeDiff, part, fillA, fillE, Nat.reduceLT]
            · simp (maxDischargeDepth := 30) only [f12, amL, args0, Nat.reduceEqDiff, reduceCtorEq, ↓reduceIte, Nat.reduceAdd, resultsA, results1, Int.reduceNeg, splice, Nat.reduceLeDiff, part, fillA, fillE, Nat.reduceLT]
            · simp (maxDischargeDepth := 30) only [f42, amL, args0, Nat.reduceEqDiff, reduceCtorEq, ↓reduceIte, Nat.reduceAdd, resultsA, results1, Int.reduceNeg, splice, Nat.reduceLeDiff, part, fillA, fillE, Nat.reduceLT]
            · simp (maxDischargeDepth := 30) only [amL, args0, Nat.reduceEqDiff, reduceCtorEq, ↓reduceIte, Nat.reduceAdd, resultsA, results1, Int.reduceNeg, splice, Nat.reduceLeDiff, part, fillA, fillE, Nat.reduceLT]
            · rw [List.getElem?_set_ne (by omega)]; exact hL
            · exact Tab.set (.inr ⟨b, cap, ex, t, hb1, hb2, rfl, hb3, hb5⟩) hb3 (hlen2 _)
            · rw [List.getElem?_set_ne ne1]; exact hMP
        · simp (maxDischargeDepth := 30) only [h2, f2, f5, f34, f35, f36, f12, f42, f43, w1, amL, args0, Nat.reduceEqDiff, reduceCtorEq, ↓reduceIte, Nat.reduceAdd, resultsA, results1, Int.reduceNeg, splice, Nat.reduceLeDiff, part, fillA, fillE, Nat.reduceLT]
          refine ⟨_, ?_, i + 1, by omega, rfl, ?_, ?_, ?_, ?_, ?_, hg, hL, hta, htb⟩
          · omega
          · simp (maxDischargeDepth := 30) only [f2, amL, args0, Nat.reduceEqDiff, reduceCtorEq, ↓reduceIte, Nat.reduceAdd, resultsA, results1, Int.reduceNeg, splice, Nat.reduceLeDiff, part, fillA, fillE, Nat.reduceLT]
          · simp (maxDischargeDepth := 30) only [f5, amL, args0, Nat.reduceEqDiff, reduceCtorEq, ↓reduceIte, Nat.reduceAdd, resultsA, results1, Int.reduceNeg, splice, Nat.reduceLeDiff, part, fillA, fillE, Nat.reduceLT]
          · simp (maxDischargeDepth := 30) only [f34, amL, args0, Nat.reduceEqDiff, reduceCtorEq, ↓reduceIte, Nat.reduceAdd, resultsA, results1, Int.reduceNeg, splice, Nat.reduceLeDiff, part, fillA, fillE, Nat.reduceLT]
          · simp (maxDischargeDepth := 30) only [f35, amL, args0, Nat.reduceEqDiff, reduceCtorEq, ↓reduceIte, Nat.reduceAdd, resultsA, results1, Int.reduceNeg, splice, Nat.reduceLeDiff, part, fillA, fillE, Nat.reduceLT]
          · simp (maxDischargeDepth := 30) only [amL, args0, Nat.reduceEqDiff, reduceCtorEq, ↓reduceIte, Nat.reduceAdd, resultsA, results1, Int.reduceNeg, splice, Nat.reduceLeDiff, part, fillA, fillE, Nat.reduceLT]
      · exact ⟨0, by omega, rfl, by simp (maxDischargeDepth := 30) only [f2, amL, args0, Nat.reduceEqDiff, reduceCtorEq, ↓reduceIte, Nat.reduceAdd, resultsA, results1, Int.reduceNeg, splice, Nat.reduceLeDiff, part, fillA, fillE, Nat.reduceLT], by simp (maxDischargeDepth := 30) only [f5, amL, args0, Nat.reduceEqDiff, reduceCtorEq, ↓reduceIte, Nat.reduceAdd, resultsA, results1, Int.reduceNeg, splice, Nat.reduceLeDiff, part, fillA, fillE, Nat.reduceLT], by simp (maxDischargeDepth := 30) only [f34, amL, args0, Nat.reduceEqDiff, reduceCtorEq, ↓reduceIte, Nat.reduceAdd, resultsA, results1, Int.reduceNeg, splice, Nat.reduceLeDiff, part, fillA, fillE, Nat.reduceLT], by simp (maxDischargeDepth := 30) only [f35, amL, args0, Nat.reduceEqDiff, reduceCtorEq, ↓reduceIte, Nat.reduceAdd, resultsA, results1, Int.reduceNeg, splice, Nat.reduceLeDiff, part, fillA, fillE, Nat.reduceLT], by simp (maxDischargeDepth := 30) only [f36, amL, args0, Nat.reduceEqDiff, reduceCtorEq, ↓reduceIte, Nat.reduceAdd, resultsA, results1, Int.reduceNeg, splice, Nat.reduceLeDiff, part, fillA, fillE, Nat.reduceLT], by simp (maxDischargeDepth := 30) only [amL, args0, Nat.reduceEqDiff, reduceCtorEq, ↓reduceIte, Nat.reduceAdd, resultsA, results1, Int.reduceNeg, splice, Nat.reduceLeDiff, part, fillA, fillE, Nat.reduceLT], by simp (maxDischargeDepth := 30) only [amL, args0, Nat.reduceEqDiff, reduceCtorEq, ↓reduceIte, Nat.reduceAdd, resultsA, results1, Int.reduceNeg, splice, Nat.reduceLeDiff, part, fillA, fillE, Nat.reduceLT], by simp (maxDischargeDepth := 30) only [amL, args0, Nat.reduceEqDiff, reduceCtorEq, ↓reduceIte, Nat.reduceAdd, resultsA, results1, Int.reduceNeg, splice, Nat.reduceLeDiff, part, fillA, fillE, Nat.reduceLT]; rfl, hg.app, getElem?_grow hL, hta.app, htb.app, htu.app, hMP⟩
    · have : i = 2 := by omega
      subst this
      have l1 := fun k => load_at0 (k := k) (j := 0) (hg.get htk)
      have l2 := fun k => load_at0 (k := k) (j := 0) (hg.get hkk)
      simp (maxDischargeDepth := 30) only [h, f2, f5, f34, f35, f36, l1, l2, amL, args0, Nat.reduceEqDiff, reduceCtorEq, ↓reduceIte, Nat.reduceAdd, resultsA, results1, Int.reduceNeg, splice, Nat.reduceLeDiff, part, fillA, fillE, Nat.reduceLT]
      refine (Same_spec (hvk.grow hg) (hkvk.grow hg) hl).mono ?_
      rintro _ _ ⟨rfl, g9, rfl⟩
      simp (maxDischargeDepth := 30) only [aft_mk, amL, args0, Nat.reduceEqDiff, reduceCtorEq, ↓reduceIte, Nat.reduceAdd, resultsA, results1, Int.reduceNeg, splice, Nat.reduceLeDiff, part, fillA, fillE, Nat.reduceLT]
      exact hgk.trans hg.app
  · exact ⟨0, by omega, rfl, by simp (maxDischargeDepth := 30) only [amL, args0, Nat.reduceEqDiff, reduceCtorEq, ↓reduceIte, Nat.reduceAdd, resultsA, results1, Int.reduceNeg, splice, Nat.reduceLeDiff, part, fillA, fillE, Nat.reduceLT], by simp (maxDischargeDepth := 30) only [amL, args0, Nat.reduceEqDiff, reduceCtorEq, ↓reduceIte, Nat.reduceAdd, resultsA, results1, Int.reduceNeg, splice, Nat.reduceLeDiff, part, fillA, fillE, Nat.reduceLT], by simp (maxDischargeDepth := 30) only [amL, args0, Nat.reduceEqDiff, reduceCtorEq, ↓reduceIte, Nat.reduceAdd, resultsA, results1, Int.reduceNeg, splice, Nat.reduceLeDiff, part, fillA, fillE, Nat.reduceLT], by simp (maxDischargeDepth := 30) only [amL, args0, Nat.reduceEqDiff, reduceCtorEq, ↓reduceIte, Nat.reduceAdd, resultsA, results1, Int.reduceNeg, splice, Nat.reduceLeDiff, part, fillA, fillE, Nat.reduceLT]; rfl, by simp (maxDischargeDepth := 30) only [amL, args0, Nat.reduceEqDiff, reduceCtorEq, ↓reduceIte, Nat.reduceAdd, resultsA, results1, Int.reduceNeg, splice, Nat.reduceLeDiff, part, fillA, fillE, Nat.reduceLT]; rfl, hg1, hLb, hta, htb⟩
end Go.AM.G
