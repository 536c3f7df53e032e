/- A row is sorted, and each place kept but once. -/
import Derived.Test.YtnpefpiggklimaaGreatHqA
set_option linter.unusedVariables false
set_option linter.unusedSimpArgs false

set_option maxRecDepth 100000
namespace Go.AM.G
open Go Go.AM
def rowN (n : Nat) (f : Nat → Nat) : List (List V) := (List.range n).map fun i => [.int .i64 (f i : Nat)]
theorem rowN_len {n : Nat} {f : Nat → Nat} : (rowN n f).length = n := by simp [rowN]
theorem rowN_get {n i : Nat} {f : Nat → Nat} (h : i < n) : (rowN n f)[i]? = some [.int .i64 (f i : Nat)] := by simp [rowN, h]
theorem rowN_load {n i : Nat} {f : Nat → Nat} (h : i < n) : loadB (some (.cells true (rowN n f))) none i 0 = some (.int .i64 (f i : Nat)) := by
  rw [loadB_mk, rowN_get h]; rfl
theorem rowN_store {n i x : Nat} {f : Nat → Nat} (h : i < n) : storeB (some (.cells true (rowN n f))) 1 i 0 (.int .i64 (x : Nat)) = some (.cells true (rowN n (up f i x))) := by
  unfold storeB
  simp only [rowN_get h]
  rw [if_pos ⟨rfl, Nat.le_refl _, rfl⟩]
  have : (rowN n f).set i (splice [V.int .i64 (f i : Nat)] 0 (V.int .i64 (x : Nat)).cells) = rowN n (up f i x) := by
    apply List.ext_getElem?
    intro j
    by_cases hj : j < n
    · by_cases e : i = j
      · subst e
        rw [List.getElem?_set_self (by rw [rowN_len]; exact hj), rowN_get hj, up_self]; rfl
      · rw [List.getElem?_set_ne e, rowN_get hj, rowN_get hj, up_ne (Ne.symm e)]
    · rw [List.getElem?_eq_none (by simp [rowN_len]; omega), List.getElem?_eq_none (by rw [rowN_len]; omega)]
  rw [this]
theorem ix_slice {b o len cap i : Nat} {ex : Bool} (ki : IntKind) (h : i < len) : asIndex 1 (.slice b o len cap ex 1) (.int ki (i : Int)) = some (.ptr b (o + i) 0) := by
  unfold asIndex
  simp [h]
theorem range_cl {n : Nat} {f : Nat → Nat} (h : ∀ i, 0 < i → i < n → f (i - 1) ≠ f i) : cl ((List.range n).map f) = (List.range n).map f := by
  induction n with
  | zero => rfl
  | succ n ih =>
    have ih := ih fun i h1 h2 => h i h1 (by omega)
    cases n with
    | zero => rfl
    | succ n =>
      have e : (List.range (n + 1 + 1)).map f = (List.range n).map f ++ [f n, f (n + 1)] := by simp [List.range_succ]
      have e2 : (List.range (n + 1)).map f = (List.range n).map f ++ [f n] := by simp [List.range_succ]
      rw [e2] at ih
      rw [e, cl_snoc, if_neg (by have := h (n + 1) (by omega) (by omega); simpa using this), ih]
      simp
theorem cl_step {n : Nat} {f : Nat → Nat} : cl ((List.range (n + 1 + 1)).map f) = if f n = f (n + 1) then cl ((List.range (n + 1)).map f) else cl ((List.range (n + 1)).map f) ++ [f (n + 1)] := by
  have e : (List.range (n + 1 + 1)).map f = (List.range n).map f ++ [f n, f (n + 1)] := by simp [List.range_succ]
  have e2 : (List.range (n + 1)).map f = (List.range n).map f ++ [f n] := by simp [List.range_succ]
  rw [e, e2, cl_snoc]
theorem clear_row {Mm : Blk → Mem} {b n k : Nat} {w : Nat → Nat} (hget : ∀ X, (Mm X)[b]? = some X) (hset : ∀ X Y, (Mm X).set b Y = Mm Y) (hk : k ≤ n) :
    clearV (Mm (.cells true (rowN n w))) [.int .i64 0] (.slice b k (n - k) (n - k) false 1) = some (undef, Mm (.cells true (rowN n fun i => if i < k then w i else 0))) := by
  unfold clearV
  simp only [hget, rowN_len, hset, List.length_singleton, ne_eq, not_true_eq_false, if_false]
  rw [if_pos (by omega)]
  congr 4
  unfold over
  apply List.ext_getElem?
  intro j
  have hl : ((rowN n w).take k).length = k := by rw [List.length_take, rowN_len]; exact Nat.min_eq_left hk
  by_cases hj : j < k
  · rw [List.getElem?_append_left (by omega), List.getElem?_take, if_pos hj, rowN_get (by omega), rowN_get (by omega), if_pos hj]
  · rw [List.getElem?_append_right (by omega), hl]
    by_cases hj2 : j < n
    · rw [List.getElem?_append_left (by simp; omega), rowN_get hj2, if_neg hj]
      simp [show j - k < n - k by omega]
    · rw [List.getElem?_append_right (by simp; omega), List.getElem?_eq_none (by simp [rowN_len]; omega), List.getElem?_eq_none (by rw [rowN_len]; omega)]
theorem Compact_spec {Mm : Blk → Mem} {b n : Nat} {f : Nat → Nat} (hget : ∀ X, (Mm X)[b]? = some X) (hset : ∀ X Y, (Mm X).set b Y = Mm Y) (hn : n < 100000000000000000) :
    C S n_slices_Compact_int [.slice b 0 n n false 1] (Mm (.cells true (rowN n f))) (fun r m' => ∃ k w, r = .slice b 0 k n false 1 ∧ m' = Mm (.cells true (rowN n w)) ∧ k ≤ n ∧ (List.range k).map w = cl ((List.range n).map f)) := by
  have i1 := @rowN_load n
  have i2 := @rowN_store n
  have i3 := @ix_slice
  have omn : ∀ f : Arg → V, Option.map f none = none := fun _ => rfl
  have zk : ∀ b i l c (e : Bool), zOk (.slice b i l c e 1) 1 = true := fun _ _ _ _ _ => rfl
  by_cases h2 : n < 2
  · have c1 : ((n : Int) < 2) = True := eq_true (by omega)
    have h2' := PLift.up h2
    clear h2
    refine fn rfl ?_
    exact ⟨n, f, rfl, rfl, Nat.le_refl _, (range_cl fun i h1 h3 => by have := h2'.down; omega).symm⟩
  have c1 : ((n : Int) < 2) = False := eq_false (by omega)
  have h2' := PLift.up h2
  clear h2
  refine fn rfl ?_
  let I := fun (d : Nat) (fr : Frame) (M : Mem) => ∃ k : Nat, 1 ≤ k ∧ k ≤ n ∧ d = n - k ∧ Has fr [(0, .slice b 0 n n false 1), (3, .int .i64 (k : Nat))] ∧ M = Mm (.cells true (rowN n f)) ∧ ∀ i, 0 < i → i < k → f (i - 1) ≠ f i
  refine W_loop I ?_ (n - 1) ⟨1, Nat.le_refl _, by have := h2'.down; omega, rfl, byam, rfl, fun i h1 h3 => by omega⟩
  rintro d fr _ ⟨k, hk1, hkn, rfl, F, rfl, hne⟩
  have hne' := PLift.up hne
  clear hne
  by_cases hk : k < n
  case neg =>
    have ek : k = n := by omega
    subst ek
    have c2 : ((k : Int) < (k : Int)) = False := eq_false (by omega)
    refine into ?_
    exact ⟨k, f, rfl, rfl, Nat.le_refl _, (range_cl hne'.down).symm⟩
  have c2 : ((k : Int) < (n : Int)) = True := eq_true (by omega)
  have w1 : IntKind.i64.wrap ((k : Int) - 1) = ((k - 1 : Nat) : Int) := by rw [wrap_i64] <;> omega
  have w2 : IntKind.i64.wrap ((k : Int) + 1) = ((k + 1 : Nat) : Int) := by rw [wrap_i64] <;> omega
  have l1 : k - 1 < n := by omega
  by_cases he : f k = f (k - 1)
  case neg =>
    have c3 : (((f k : Nat) : Int) = ((f (k - 1) : Nat) : Int)) = False := eq_false (by omega)
    have he' := PLift.up he
    clear he
    refine into ?_
    refine ⟨_, ?_, k + 1, by omega, by omega, rfl, byam, rfl, fun i h1 h3 => ?_⟩
    · omega
    · by_cases e : i = k
      · subst e; exact fun h => he'.down h.symm
      · exact hne'.down i h1 (by omega)
  have c3 : (((f k : Nat) : Int) = ((f (k - 1) : Nat) : Int)) = True := eq_true (by omega)
  have he' := PLift.up he
  have s1 : sliceV (.slice b 0 n n false 1) (some (.int .i64 (k : Nat))) none none = some (.slice b k (n - k) (n - k) false 1) := by simp [sliceV, bound, hkn]
  have hstart : PLift ((List.range k).map f = cl ((List.range (k + 1)).map f)) := ⟨by
    obtain ⟨j, rfl⟩ : ∃ j, k = j + 1 := ⟨k - 1, by omega⟩
    rw [cl_step, if_pos (by have := he'.down; simpa using this.symm), range_cl hne'.down]⟩
  clear he
  refine into ?_
  let I2 := fun (d : Nat) (fr : Frame) (M : Mem) => ∃ (e kk : Nat) (w : Nat → Nat), 1 ≤ e ∧ e ≤ n - k ∧ 1 ≤ kk ∧ kk ≤ k + e - 1 ∧ d = n - k - e ∧ Has fr [(0, .slice b 0 n n false 1), (3, .int .i64 (kk : Nat)), (4, .slice b k (n - k) (n - k) false 1), (5, .int .i64 (e : Nat))] ∧ M = Mm (.cells true (rowN n w)) ∧ (∀ i, k + e - 1 ≤ i → w i = f i) ∧ (List.range kk).map w = cl ((List.range (k + e)).map f)
  refine W_loop I2 ?_ (n - k - 1) ⟨1, k, f, Nat.le_refl _, by omega, hk1, by omega, by omega, byam, rfl, fun i _ => rfl, hstart.down⟩
  rintro d fr _ ⟨e, kk, w, he1, hen, hkk1, hkk, rfl, F, rfl, hw, hcl⟩
  have hw' := PLift.up hw
  have hcl' := PLift.up hcl
  clear hw hcl
  by_cases hlt : e < n - k
  · have c4 : ((e : Int) < ((n - k : Nat) : Int)) = True := eq_true (by omega)
    have w3 : IntKind.i64.wrap ((e : Int) - 1) = ((e - 1 : Nat) : Int) := by rw [wrap_i64] <;> omega
    have w4 : IntKind.i64.wrap ((e : Int) + 1) = ((e + 1 : Nat) : Int) := by rw [wrap_i64] <;> omega
    have w5 : IntKind.i64.wrap ((kk : Int) + 1) = ((kk + 1 : Nat) : Int) := by rw [wrap_i64] <;> omega
    have b1 : k + e < n := by omega
    have b2 : k + (e - 1) < n := by omega
    have b3 : kk < n := by omega
    have b4 : e - 1 < n - k := by omega
    have f1 : w (k + e) = f (k + e) := hw'.down _ (by omega)
    have f2 : w (k + (e - 1)) = f (k + e - 1) := by rw [hw'.down _ (by omega)]; congr 1; omega
    have step : PLift (cl ((List.range (k + (e + 1))).map f) = if f (k + e - 1) = f (k + e) then cl ((List.range (k + e)).map f) else cl ((List.range (k + e)).map f) ++ [f (k + e)]) := ⟨by
      have := @cl_step (k + e - 1) f
      rw [show k + e - 1 + 1 + 1 = k + (e + 1) by omega, show k + e - 1 + 1 = k + e by omega] at this
      exact this⟩
    by_cases hf : f (k + e) = f (k + e - 1)
    · have c5 : (((f (k + e) : Nat) : Int) = ((f (k + e - 1) : Nat) : Int)) = True := eq_true (by omega)
      have hf' := PLift.up hf
      clear hf
      refine into ?_
      refine into ?_
      refine ⟨_, ?_, e + 1, kk, w, by omega, by omega, hkk1, by omega, rfl, byam, rfl, fun i hi => hw'.down i (by omega), ?_⟩
      · omega
      · rw [step.down, if_pos hf'.down.symm]; exact hcl'.down
    · have c5 : (((f (k + e) : Nat) : Int) = ((f (k + e - 1) : Nat) : Int)) = False := eq_false (by omega)
      have hf' := PLift.up hf
      clear hf
      refine into ?_
      refine into ?_
      refine ⟨_, ?_, e + 1, kk + 1, up w kk (f (k + e)), by omega, by omega, by omega, by omega, rfl, byam, rfl, fun i hi => ?_, ?_⟩
      · omega
      · rw [up_ne (by omega)]; exact hw'.down i (by omega)
      · rw [step.down, if_neg (fun h => hf'.down h.symm), ← hcl'.down, List.range_succ, List.map_append]
        congr 1
        · refine List.map_congr_left fun i hi => ?_
          have := List.mem_range.1 hi
          exact up_ne (by omega)
        · simp [up_self]
  · have ee : e = n - k := by omega
    have ekn : k + e = n := by omega
    have c4 : ((e : Int) < ((n - k : Nat) : Int)) = False := eq_false (by omega)
    have s2 : sliceV (.slice b 0 n n false 1) (some (.int .i64 (kk : Nat))) none none = some (.slice b kk (n - kk) (n - kk) false 1) := by simp [sliceV, bound, show kk ≤ n by omega]
    have s3 : sliceV (.slice b 0 n n false 1) none (some (.int .i64 (kk : Nat))) none = some (.slice b 0 kk n false 1) := by simp [sliceV, bound, show kk ≤ n by omega]
    have s4 := clear_row (w := w) hget hset (show kk ≤ n by omega)
    have hlast : PLift ((List.range kk).map (fun i => if i < kk then w i else 0) = cl ((List.range n).map f)) := ⟨by
      rw [← ekn, ← hcl'.down]
      refine List.map_congr_left fun i hi => ?_
      rw [if_pos (List.mem_range.1 hi)]⟩
    have hkkn : kk ≤ n := by omega
    clear ee ekn
    refine into ?_
    exact ⟨kk, _, rfl, rfl, hkkn, hlast.down⟩
end Go.AM.G


set_option maxRecDepth 100000
namespace Go.AM.G
open Go Go.AM
theorem srt_nats {l : List Nat} : ∃ k : List Nat, srtI (l.map fun p : Nat => (p : Int)) = k.map (fun p : Nat => (p : Int)) ∧ k.Pairwise (· ≤ ·) ∧ (∀ x, x ∈ k ↔ x ∈ l) ∧ k.length = l.length := by
  have hm : ∀ x : Int, x ∈ srtI (l.map fun p : Nat => (p : Int)) ↔ x ∈ l.map fun p : Nat => (p : Int) := fun x => List.mem_mergeSort
  have hp : (srtI (l.map fun p : Nat => (p : Int))).Pairwise (fun x y => decide (x ≤ y) = true) := List.pairwise_mergeSort (fun a b c h1 h2 => by simp at *; omega) (fun a b => by simp; omega) _
  have he : srtI (l.map fun p : Nat => (p : Int)) = ((srtI (l.map fun p : Nat => (p : Int))).map Int.toNat).map (fun p : Nat => (p : Int)) := by
    rw [List.map_map]
    conv => lhs; rw [← List.map_id (srtI _)]
    refine List.map_congr_left fun x hx => ?_
    obtain ⟨y, _, rfl⟩ := List.mem_map.1 ((hm x).1 hx)
    rfl
  refine ⟨_, he, ?_, fun x => ?_, by simp [srtI]⟩
  · rw [List.pairwise_map]
    refine hp.imp fun h => ?_
    have := of_decide_eq_true h
    omega
  · rw [List.mem_map]
    constructor
    · rintro ⟨y, hy, rfl⟩
      obtain ⟨z, hz, rfl⟩ := List.mem_map.1 ((hm y).1 hy)
      exact hz
    · intro hx
      exact ⟨(x : Int), (hm _).2 (List.mem_map.2 ⟨x, hx, rfl⟩), rfl⟩
theorem Sort_spec {m : Mem} {b : Nat} {l : List Nat} (hb : m[b]? = some (.cells true (nats l))) (hl : l.length < 100000000000000000) : C S n_slices_Sort_int [.slice b 0 l.length l.length false 1] m (fun r m' => r = .tup [] ∧ ∃ k : List Nat, m' = m.set b (.cells true (nats k)) ∧ k.Pairwise (· ≤ ·) ∧ (∀ x, x ∈ k ↔ x ∈ l) ∧ k.length = l.length) := by
  obtain ⟨k, e, h1, h2, h3⟩ := @srt_nats l
  refine ⟨1, .tup [], m.set b (.cells true (nats k)), ?_, rfl, k, rfl, h1, h2, h3⟩
  show tSortI [.slice b 0 l.length l.length false 1] m = _
  have hlen : (nats l).length = l.length := by simp
  have ht : (nats l).take l.length = nats l := by rw [← hlen, List.take_length]
  have hd : (nats l).drop l.length = [] := by rw [← hlen, List.drop_length]
  have hall : (nats l).all isI = true := by
    rw [List.all_eq_true]
    intro x hx
    obtain ⟨p, _, rfl⟩ := List.mem_map.1 hx
    rfl
  have hdec : (nats l).map decI = l.map fun p : Nat => (p : Int) := by rw [List.map_map]; rfl
  simp only [tSortI, hb, ht, hd]
  rw [if_pos ⟨by omega, by omega, hall⟩, hdec, e, List.append_nil]
  have : i64s (k.map fun p : Nat => (p : Int)) = nats k := by rw [i64s, List.map_map]; rfl
  rw [this]
theorem Sort_nil {m : Mem} : C S n_slices_Sort_int [.nils] m (fun r m' => r = .tup [] ∧ m' = m) := ⟨1, .tup [], m, rfl, rfl, rfl⟩
theorem Compact_nil {m : Mem} : C S n_slices_Compact_int [.nils] m (fun r m' => r = .nils ∧ m' = m) := by
  refine fn rfl ?_
  trivial
theorem nats_row {l : List Nat} : nats l = rowN l.length (nx l) := map_nx (f := fun p : Nat => [V.int .i64 (p : Int)])
theorem nx_map {l : List Nat} : (List.range l.length).map (nx l) = l := by
  have := map_nx (f := id) (l := l)
  simpa using this.symm
theorem set_spec {A g G : Mem} {v : V} {l : List Nat} (h : Gw A.length g v 1 (nats l)) (hl : l.length < 100000000000000000) : C S n_graph_set [v] (A ++ (g ++ G)) (fun r m' => ∃ g', m' = A ++ (g' ++ G) ∧ g.length = g'.length ∧ Rg A.length g' r (setN l) ∧ (∀ j, blkOf v ≠ some (A.length + j) → g'[j]? = g[j]?) ∧ (blkOf r = blkOf v ∨ r = .nils)) := by
  rcases h with ⟨rfl, hn⟩ | ⟨j, rfl, hj⟩
  · have e : l = [] := by cases l with
      | nil => rfl
      | cons a l => cases hn
    subst e
    refine fn rfl ?_
    refine Sort_nil.mono ?_
    rintro _ _ ⟨rfl, rfl⟩
    refine am ?_
    refine Compact_nil.mono ?_
    rintro _ _ ⟨rfl, rfl⟩
    refine am ?_
    exact ⟨g, rfl, rfl, .inl ⟨rfl, rfl⟩, fun _ _ => rfl, .inr trivial⟩
  · have hjl := (List.getElem?_eq_some_iff.1 hj).1
    have hlen : (nats l).length = l.length := by simp
    rw [hlen]
    obtain ⟨Mm, hMm⟩ : ∃ Mm : Blk → Mem, ∀ X, Mm X = A ++ (g.set j X ++ G) := ⟨_, fun _ => rfl⟩
    have hget : ∀ X, (Mm X)[A.length + j]? = some X := fun X => by
      rw [hMm, List.getElem?_append_right (by omega), Nat.add_sub_cancel_left, List.getElem?_append_left (by simpa using hjl), List.getElem?_set_self hjl]
    have hset : ∀ X Y, (Mm X).set (A.length + j) Y = Mm Y := fun X Y => by
      rw [hMm, hMm, List.set_append_right _ _ (by omega), Nat.add_sub_cancel_left, List.set_append_left _ _ (by simpa using hjl), List.set_set]
    have h0 : A ++ (g ++ G) = Mm (.cells true (nats l)) := by
      rw [hMm]
      congr 2
      apply List.ext_getElem?
      intro i
      by_cases e : j = i
      · subst e; rw [List.getElem?_set_self hjl, hj]
      · rw [List.getElem?_set_ne e]
    rw [h0]
    have hl' := PLift.up hl
    have h1 := PLift.up (Sort_spec (hget (.cells true (nats l))) hl)
    have h2 := PLift.up (fun (k : List Nat) (hk : k.length < 100000000000000000) => Compact_spec (Mm := Mm) (b := A.length + j) (n := k.length) (f := nx k) hget hset hk)
    have hset' := PLift.up hset
    have hMm' := PLift.up hMm
    have hj' := PLift.up hj
    clear hget hset h0 hMm hj hl hlen
    refine fn rfl ?_
    refine h1.down.mono ?_
    rintro _ _ ⟨rfl, k, rfl, hk1, hk2, hk3⟩
    have hkl : k.length < 100000000000000000 := by have := hl'.down; omega
    rw [hset'.down]
    have hp := PLift.up (cl_set hk1 hk2)
    have hk3' := PLift.up hk3
    rw [← hk3]
    clear hk1 hk2 hk3
    refine am ?_
    have h3 := h2.down k hkl
    rw [← nats_row] at h3
    refine h3.mono ?_
    rintro _ _ ⟨c, w, rfl, rfl, hc, hcl⟩
    rw [nx_map, hp.down] at hcl
    have hcl' := PLift.up hcl
    have hc' := PLift.up hc
    clear hcl hc h3 h2 h1
    refine am ?_
    have hsl : (setN l).length = c := by rw [← hcl'.down]; simp
    refine ⟨g.set j (.cells true (rowN k.length w)), hMm'.down _, by simp, .inr ⟨j, k.length, false, true, rowN k.length w, by rw [hsl], by rw [hsl]; exact hc'.down, List.getElem?_set_self hjl, ?_⟩, fun i hi => List.getElem?_set_ne (fun e => hi (by rw [e]; rfl)), .inl rfl⟩
    rw [hsl, ← hcl'.down]
    unfold rowN
    rw [← List.map_take, List.take_range, Nat.min_eq_left hc'.down]
    simp only [nats, List.map_map]
    rfl
end Go.AM.G


set_option maxRecDepth 100000
namespace Go.AM.G
open Go Go.AM
structure NodeB where
  addr : Nat
  words : Nat
  to : List Nat
abbrev ndV (x : NodeB) (tv : V) : List V := [.int .u64 (x.addr : Nat), .int .i64 (x.words : Nat), tv]
abbrev zNd : List V := [.int .u64 0, .int .i64 0, .nils]
/-- a row of nodes that grows. -/
structure Nd (len : Nat) (G : Mem) (uN : V) (els : List (List V)) (N : List NodeB) : Prop where
  gw : Gw len G uN 3 els
  ln : els.length = N.length
  nd : ∀ (j : Nat) (x : NodeB), N[j]? = some x → ∃ tv, els[j]? = some (ndV x tv) ∧ Rg len G tv x.to ∧ ∀ c, blkOf tv = some c → blkOf uN ≠ some c
theorem Nd.none {len : Nat} {G : Mem} : Nd len G .nils [] [] := ⟨.inl ⟨rfl, rfl⟩, rfl, fun j x h => by simp at h⟩
theorem Nd.app {len : Nat} {G X : Mem} {uN : V} {els : List (List V)} {N : List NodeB} (h : Nd len G uN els N) : Nd len (G ++ X) uN els N := ⟨h.gw.app, h.ln, fun j x hx => by
  obtain ⟨tv, a, b, c⟩ := h.nd j x hx
  exact ⟨tv, a, b.app, c⟩⟩
theorem Nd.cast {len c : Nat} {G : Mem} {uN : V} {els : List (List V)} {N : List NodeB} (h : Nd len G uN els N) (e : len = c := by (try simp only [List.length_append, List.length_cons, List.length_nil]) <;> omega) : Nd c G uN els N := e ▸ h
theorem Nd.push {A G : Mem} {uN : V} {els : List (List V)} {N : List NodeB} (h : Nd A.length G uN els N) (hn : N.length < 1000000) :
    ∃ G', G'.length = G.length ∧ (∀ X T, appendV (A ++ (G ++ X)) zNd 40 uN (.slice T 0 1 1 true 3) = pushB (A ++ (G ++ X))[T]? fun x => (.slice (A.length + (G.length + X.length)) 0 (els.length + 1) (els.length + 1) false 3, A ++ (G' ++ (X ++ [.cells true (els ++ [x])])))) ∧
      (∀ X x tv, Rg A.length (G' ++ X) tv x.to → Nd A.length (G' ++ (X ++ [.cells true (els ++ [ndV x tv])])) (.slice (A.length + (G.length + X.length)) 0 (els.length + 1) (els.length + 1) false 3) (els ++ [ndV x tv]) (N ++ [x])) ∧
      ∀ v l, Rg A.length G v l → (∀ c, blkOf v = some c → blkOf uN ≠ some c) → Rg A.length G' v l := by
  obtain ⟨G', h1, h2, h3⟩ := h.gw.push (zero := zNd) (bytes := 40) rfl (by simp [roomy]; have := h.ln; omega)
  have hk : ∀ v l, Rg A.length G v l → (∀ c, blkOf v = some c → blkOf uN ≠ some c) → Rg A.length G' v l := fun v l hv hc => hv.keep fun j hj => h2 j (hc _ hj)
  refine ⟨G', h1, h3, fun X x tv hR => ⟨.inr ⟨G.length + X.length, by simp, ?_⟩, by simp [h.ln], fun j y hy => ?_⟩, hk⟩
  · rw [List.getElem?_append_right (by omega), h1, Nat.add_sub_cancel_left]; simp
  · have hne : ∀ v l, Rg A.length (G' ++ X) v l → ∀ c, blkOf v = some c → blkOf (.slice (A.length + (G.length + X.length)) 0 (els.length + 1) (els.length + 1) false 3) ≠ some c := fun v l hv c hc e => by
      have := (hv.blk hc).2
      injection e with e
      rw [List.length_append, h1] at this
      omega
    by_cases hj : j < N.length
    · rw [List.getElem?_append_left hj] at hy
      obtain ⟨tv', a, b, c⟩ := h.nd j y hy
      refine ⟨tv', by rw [List.getElem?_append_left (by rw [h.ln]; exact hj)]; exact a, ?_, hne _ _ (hk _ _ b c).app⟩
      rw [← List.append_assoc]
      exact (hk _ _ b c).app.app
    · have ej : j = N.length := by
        have := (List.getElem?_eq_some_iff.1 hy).1
        simp at this; omega
      subst ej
      rw [List.getElem?_concat_length] at hy
      cases hy
      refine ⟨tv, by rw [← h.ln, List.getElem?_concat_length], ?_, hne _ _ hR⟩
      rw [← List.append_assoc]
      exact hR.app
/-- a graph that is read. -/
def GrB (m : Mem) (nv rv : V) (N : List NodeB) (R : List Nat) : Prop := Sl m rv 1 (nats R) ∧ ∃ els, Sl m nv 3 els ∧ els.length = N.length ∧ ∀ (j : Nat) (x : NodeB), N[j]? = some x → ∃ tv, els[j]? = some (ndV x tv) ∧ Sl m tv 1 (nats x.to)
theorem GrB.app {m g : Mem} {nv rv : V} {N : List NodeB} {R : List Nat} (h : GrB m nv rv N R) : GrB (m ++ g) nv rv N R := by
  obtain ⟨h1, els, h2, h3, h4⟩ := h
  refine ⟨h1.app, els, h2.app, h3, fun j x hx => ?_⟩
  obtain ⟨tv, a, b⟩ := h4 j x hx
  exact ⟨tv, a, b.app⟩
theorem Nd.gr {A G X : Mem} {uN rv : V} {els : List (List V)} {N : List NodeB} {R : List Nat} (h : Nd A.length G uN els N) (hr : Rg A.length G rv R) : GrB (A ++ (G ++ X)) uN rv N R := by
  refine ⟨hr.sl, els, h.gw.sl, h.ln, fun j x hx => ?_⟩
  obtain ⟨tv, a, b, _⟩ := h.nd j x hx
  exact ⟨tv, a, b.sl⟩
/-- what a heap's graph is. -/
def refsTo (a : Nat → Nat) (cs : List Nat) (x : Nat) : Nat → List Nat
  | 0 => []
  | f + 1 => if (unM (a x)).testBit f = true ∧ a (x + 1 + f) ≠ 0 then refsTo a cs x f ++ [plc cs (a (x + 1 + f))] else refsTo a cs x f
def ndOf (a : Nat → Nat) (cs : List Nat) (x : Nat) : NodeB := ⟨x, a x % 256 + 1, setN (refsTo a cs x (a x % 256))⟩
def rootsTo (cs : List Nat) (rs : List Nat) : Nat → List Nat
  | 0 => []
  | k + 1 => if nx rs k ≠ 0 then rootsTo cs rs k ++ [plc cs (nx rs k)] else rootsTo cs rs k
/-- all roots but so many are of objects. -/
def rootsOk (cs : List Nat) (rs : List Nat) (k : Nat) : Prop := ∀ i, i < k → nx rs i ≠ 0 → nx rs i ∈ cs
def ofR (H : HeapA) (rs : List Nat) (r : V) (m' : Mem) : Prop :=
  (¬ H.right ∧ r = .tup [.agg [.nils, .nils], .int .i64 2]) ∨
  (H.right ∧ ¬ rootsOk (curs (obs H H.ns)) rs rs.length ∧ r = .tup [.agg [.nils, .nils], .int .i64 10]) ∨
  (H.right ∧ rootsOk (curs (obs H H.ns)) rs rs.length ∧ ∃ nv rv, r = .tup [.agg [nv, rv], .int .i64 0] ∧ GrB m' nv rv ((curs (obs H H.ns)).map (ndOf H.a (curs (obs H H.ns)))) (setN (rootsTo (curs (obs H H.ns)) rs rs.length)))
theorem refsTo_le {a : Nat → Nat} {cs : List Nat} {x : Nat} : ∀ f, (refsTo a cs x f).length ≤ f
  | 0 => Nat.le_refl _
  | f + 1 => by
    have := @refsTo_le a cs x f
    unfold refsTo
    split
    · simp; omega
    · omega
theorem rootsTo_le {cs rs : List Nat} : ∀ k, (rootsTo cs rs k).length ≤ k
  | 0 => Nat.le_refl _
  | k + 1 => by
    have := @rootsTo_le cs rs k
    unfold rootsTo
    split
    · simp; omega
    · omega
theorem curs_mem {l : List ObA} {a : Nat} : a ∈ curs l ↔ ∃ o, o ∈ l ∧ o.cur = true ∧ o.addr = a := by
  induction l with
  | nil => simp [curs]
  | cons o l ih =>
    unfold curs
    split
    · rename_i h
      rw [List.mem_cons, ih]
      constructor
      · rintro (rfl | ⟨o', h1, h2⟩)
        · exact ⟨o, by simp, h, rfl⟩
        · exact ⟨o', List.mem_cons_of_mem _ h1, h2⟩
      · rintro ⟨o', h1, h2, h3⟩
        rcases List.mem_cons.1 h1 with rfl | h1
        · exact .inl h3.symm
        · exact .inr ⟨o', h1, h2, h3⟩
    · rename_i h
      rw [ih]
      constructor
      · rintro ⟨o', h1, h2⟩
        exact ⟨o', List.mem_cons_of_mem _ h1, h2⟩
      · rintro ⟨o', h1, h2, h3⟩
        rcases List.mem_cons.1 h1 with rfl | h1
        · exact absurd h2 h
        · exact ⟨o', h1, h2, h3⟩
theorem curs_fnd {l : List ObA} {a : Nat} : a ∈ curs l ↔ (fnd l a).isSome = true := by
  rw [curs_mem]
  unfold fnd
  rw [List.find?_isSome]
  constructor
  · rintro ⟨o, h1, h2, h3⟩
    exact ⟨o, h1, by simp [h2, h3]⟩
  · rintro ⟨o, h1, h2⟩
    simp only [Bool.and_eq_true, beq_iff_eq] at h2
    exact ⟨o, h1, h2.2, h2.1⟩
theorem curs_rise : ∀ {l : List ObA}, l.Pairwise (fun a b => a.addr < b.addr) → (curs l).Pairwise (· < ·)
  | [], _ => List.Pairwise.nil
  | o :: l, h => by
    rw [List.pairwise_cons] at h
    unfold curs
    split
    · rw [List.pairwise_cons]
      refine ⟨fun x hx => ?_, curs_rise h.2⟩
      obtain ⟨o', h1, _, rfl⟩ := curs_mem.1 hx
      exact h.1 o' h1
    · exact curs_rise h.2
theorem rises_pair {l : List ObA} (h : rises l) : l.Pairwise (fun a b => a.addr < b.addr) := by
  rw [List.pairwise_iff_getElem]
  intro i j hi hj hij
  have := h i j hij hj
  simpa [ob, List.getD_eq_getElem?_getD, hi, hj] using this
/-- what is known of a right heap's current objects. -/
theorem HeapA.right.cur {H : HeapA} (h : H.right) (wa : w64 H.na H.a) {a : Nat} (ha : a ∈ curs (obs H H.ns)) : a ≠ 0 ∧ a + 1 + H.a a % 256 ≤ H.na ∧ unOk (H.a a) ∧ (∃ o, fnd (obs H H.ns) a = some o ∧ o.w = H.a a) ∧ ∀ f, f < H.a a % 256 → (unM (H.a a)).testBit f = true → H.a (a + 1 + f) ≠ 0 → H.a (a + 1 + f) ∈ curs (obs H H.ns) := by
  have hw := h.2.1.wide h.1 wa
  have hs := curs_fnd.1 ha
  obtain ⟨o, ho⟩ := Option.isSome_iff_exists.1 hs
  obtain ⟨h1, h2, h3⟩ := fnd_is ho
  obtain ⟨i, hi, rfl⟩ := ob_of h3
  obtain ⟨c1, c2, c3, c4⟩ := hw.c i hi
  have hb := hw.b i hi
  rw [h1] at c1 c3 hb
  have hn : (ob (obs H H.ns) i).n = H.a a % 256 := by show (ob (obs H H.ns) i).w % 256 = _; rw [c3]
  rw [hn] at hb
  refine ⟨by omega, by omega, c3 ▸ c2, ⟨_, ho, c3⟩, fun f hf hbit hne => ?_⟩
  have hr := h.2.2.1 i hi h2 f (by rw [hn]; exact hf) (by rw [c3]; exact hbit)
  rw [h1] at hr
  rcases hr with hr | hr
  · exact absurd hr hne
  · exact curs_fnd.2 hr
end Go.AM.G
