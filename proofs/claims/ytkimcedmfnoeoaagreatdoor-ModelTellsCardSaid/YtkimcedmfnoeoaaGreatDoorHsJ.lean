/- The scans of a part of words. Printed by gen_part.py. -/
import Derived.Test.YtkimcedmfnoeoaaGreatDoorHsF
set_option linter.unusedVariables false
set_option linter.unusedSimpArgs false
set_option maxRecDepth 100000
namespace Go.AM.G
open Go Go.AM
section
variable {Mm : Blk → Mem} {b n cap : Nat} {ex : Bool} {r : List (List V)}
theorem up0 (h : Pl Mm b) {d : AN} (hd : d.size = n) {a i j : Nat} (ha : a < n) (hj : j < n) (hn : n < 100000000000000000) {fr : Frame} (F : Has fr [(0, sv b n cap ex), (1, .int .i64 (a : Nat)), (10, .int .i64 (i : Nat)), (11, .int .i64 (j : Nat))])
  {Q : AExit → Frame → Mem → Prop} (hQ : ∀ fr', Has fr' [(0, sv b n cap ex), (1, .int .i64 (a : Nat)), (10, .int .i64 (Sort.scanUp (fun x => ltN x d[a]!) d j i : Nat)), (11, .int .i64 (j : Nat))] → Q (.exit 0) fr' (at_ Mm r d)) :
  W S (.loop slices_partitionOrdered_uint64_l0) fr (at_ Mm r d) Q := by
 have i1 := rowA_load
 have i3 := @ix_at b n cap ex
 have hg0 : ∀ X, (Mm X)[b]? = some X := fun X => by have := h.get X []; simpa using this
 have hQ' := PLift.up hQ
 clear h hQ
 let I := fun (k : Nat) (fr : Frame) (m' : Mem) => ∃ i' : Nat, k = j + 2 - i' ∧ Sort.scanUp (fun x => ltN x d[a]!) d j i' = Sort.scanUp (fun x => ltN x d[a]!) d j i ∧ Has fr [(0, sv b n cap ex), (1, .int .i64 (a : Nat)), (10, .int .i64 (i' : Nat)), (11, .int .i64 (j : Nat))] ∧ m' = at_ Mm r d
 refine W_loop I ?_ (j + 2 - i) ⟨i, rfl, rfl, F, rfl⟩
 clear F
 rintro k fr _ ⟨i', rfl, hq, F, rfl⟩
 have hq' := PLift.up hq
 clear hq
 by_cases hij : i' ≤ j
 case neg =>
  have c1 : ((i' : Int) ≤ (j : Int)) = False := eq_false (by omega)
  have e := PLift.up (hq'.down.symm.trans (show Sort.scanUp (fun x => ltN x d[a]!) d j i' = i' by rw [Sort.scanUp, if_neg (by simp [hij])]))
  clear hij
  refine into ?_
  refine hQ'.down _ ?_
  rw [e.down]; exact byam
 have c1 : ((i' : Int) ≤ (j : Int)) = True := eq_true (by omega)
 have w1 : IntKind.i64.wrap ((i' : Int) + 1) = ((i' + 1 : Nat) : Int) := by rw [wrap_i64] <;> omega
 have l1 : i' < n := by omega
 have l1' : i' < d.size := by omega
 have la' : a < d.size := by omega
 refine into ?_
 refine LessS_spec.mono ?_
 rintro _ _ ⟨rfl, rfl⟩
 cases hl : ltN d[i']! d[a]! with
 | true =>
  have e := PLift.up (hq'.down.symm.trans (show Sort.scanUp (fun x => ltN x d[a]!) d j i' = Sort.scanUp (fun x => ltN x d[a]!) d j (i' + 1) by conv => lhs; rw [Sort.scanUp, if_pos (by simp [hij, hl])]))
  refine am ?_
  exact ⟨j + 2 - (i' + 1), by omega, i' + 1, rfl, e.down.symm, byam, rfl⟩
 | false =>
  have e := PLift.up (hq'.down.symm.trans (show Sort.scanUp (fun x => ltN x d[a]!) d j i' = i' by rw [Sort.scanUp, if_neg (by simp [hl])]))
  refine am ?_
  refine hQ'.down _ ?_
  rw [e.down]; exact byam
theorem up3 (h : Pl Mm b) {d : AN} (hd : d.size = n) {a i j : Nat} (ha : a < n) (hj : j < n) (hn : n < 100000000000000000) {fr : Frame} (F : Has fr [(0, sv b n cap ex), (1, .int .i64 (a : Nat)), (10, .int .i64 (i : Nat)), (11, .int .i64 (j : Nat))])
  {Q : AExit → Frame → Mem → Prop} (hQ : ∀ fr', Has fr' [(0, sv b n cap ex), (1, .int .i64 (a : Nat)), (10, .int .i64 (Sort.scanUp (fun x => ltN x d[a]!) d j i : Nat)), (11, .int .i64 (j : Nat))] → Q (.exit 6) fr' (at_ Mm r d)) :
  W S (.loop slices_partitionOrdered_uint64_l3) fr (at_ Mm r d) Q := by
 have i1 := rowA_load
 have i3 := @ix_at b n cap ex
 have hg0 : ∀ X, (Mm X)[b]? = some X := fun X => by have := h.get X []; simpa using this
 have hQ' := PLift.up hQ
 clear h hQ
 let I := fun (k : Nat) (fr : Frame) (m' : Mem) => ∃ i' : Nat, k = j + 2 - i' ∧ Sort.scanUp (fun x => ltN x d[a]!) d j i' = Sort.scanUp (fun x => ltN x d[a]!) d j i ∧ Has fr [(0, sv b n cap ex), (1, .int .i64 (a : Nat)), (10, .int .i64 (i' : Nat)), (11, .int .i64 (j : Nat))] ∧ m' = at_ Mm r d
 refine W_loop I ?_ (j + 2 - i) ⟨i, rfl, rfl, F, rfl⟩
 clear F
 rintro k fr _ ⟨i', rfl, hq, F, rfl⟩
 have hq' := PLift.up hq
 clear hq
 by_cases hij : i' ≤ j
 case neg =>
  have c1 : ((i' : Int) ≤ (j : Int)) = False := eq_false (by omega)
  have e := PLift.up (hq'.down.symm.trans (show Sort.scanUp (fun x => ltN x d[a]!) d j i' = i' by rw [Sort.scanUp, if_neg (by simp [hij])]))
  clear hij
  refine into ?_
  refine hQ'.down _ ?_
  rw [e.down]; exact byam
 have c1 : ((i' : Int) ≤ (j : Int)) = True := eq_true (by omega)
 have w1 : IntKind.i64.wrap ((i' : Int) + 1) = ((i' + 1 : Nat) : Int) := by rw [wrap_i64] <;> omega
 have l1 : i' < n := by omega
 have l1' : i' < d.size := by omega
 have la' : a < d.size := by omega
 refine into ?_
 refine LessS_spec.mono ?_
 rintro _ _ ⟨rfl, rfl⟩
 cases hl : ltN d[i']! d[a]! with
 | true =>
  have e := PLift.up (hq'.down.symm.trans (show Sort.scanUp (fun x => ltN x d[a]!) d j i' = Sort.scanUp (fun x => ltN x d[a]!) d j (i' + 1) by conv => lhs; rw [Sort.scanUp, if_pos (by simp [hij, hl])]))
  refine am ?_
  exact ⟨j + 2 - (i' + 1), by omega, i' + 1, rfl, e.down.symm, byam, rfl⟩
 | false =>
  have e := PLift.up (hq'.down.symm.trans (show Sort.scanUp (fun x => ltN x d[a]!) d j i' = i' by rw [Sort.scanUp, if_neg (by simp [hl])]))
  refine am ?_
  refine hQ'.down _ ?_
  rw [e.down]; exact byam
theorem dn1 (h : Pl Mm b) {d : AN} (hd : d.size = n) {a i j : Nat} (ha : a < n) (hj : j < n) (hi : 0 < i) (hn : n < 100000000000000000) (hin : i ≤ n) {fr : Frame} (F : Has fr [(0, sv b n cap ex), (1, .int .i64 (a : Nat)), (10, .int .i64 (i : Nat)), (11, .int .i64 (j : Nat))])
  {Q : AExit → Frame → Mem → Prop} (hQ : ∀ fr', Has fr' [(0, sv b n cap ex), (1, .int .i64 (a : Nat)), (10, .int .i64 (i : Nat)), (11, .int .i64 (Sort.scanDown (fun x => !ltN x d[a]!) d i j : Nat))] → Q (.exit 2) fr' (at_ Mm r d)) :
  W S (.loop slices_partitionOrdered_uint64_l1) fr (at_ Mm r d) Q := by
 have i1 := rowA_load
 have i3 := @ix_at b n cap ex
 have hg0 : ∀ X, (Mm X)[b]? = some X := fun X => by have := h.get X []; simpa using this
 have hQ' := PLift.up hQ
 clear h hQ
 let I := fun (j' : Nat) (fr : Frame) (m' : Mem) => j' ≤ j ∧ Sort.scanDown (fun x => !ltN x d[a]!) d i j' = Sort.scanDown (fun x => !ltN x d[a]!) d i j ∧ Has fr [(0, sv b n cap ex), (1, .int .i64 (a : Nat)), (10, .int .i64 (i : Nat)), (11, .int .i64 (j' : Nat))] ∧ m' = at_ Mm r d
 refine W_loop I ?_ j ⟨Nat.le_refl _, rfl, F, rfl⟩
 clear F
 rintro j' fr _ ⟨hj', hq, F, rfl⟩
 have hq' := PLift.up hq
 clear hq
 by_cases hij : i ≤ j'
 case neg =>
  have c1 : ((i : Int) ≤ (j' : Int)) = False := eq_false (by omega)
  have e := PLift.up (hq'.down.symm.trans (show Sort.scanDown (fun x => !ltN x d[a]!) d i j' = j' by
   cases j' with
   | zero => rfl
   | succ j' => rw [Sort.scanDown, if_neg (by simp only [Bool.and_eq_true, decide_eq_true_eq]; omega)]))
  clear hij
  refine into ?_
  refine hQ'.down _ ?_
  rw [e.down]; exact byam
 obtain ⟨q, rfl⟩ : ∃ q, j' = q + 1 := ⟨j' - 1, by omega⟩
 have c1 : ((i : Int) ≤ ((q + 1 : Nat) : Int)) = True := eq_true (by omega)
 have w1 : IntKind.i64.wrap (((q + 1 : Nat) : Int) - 1) = (q : Int) := by rw [wrap_i64] <;> omega
 have l1 : q + 1 < n := by omega
 have l1' : q + 1 < d.size := by omega
 have la' : a < d.size := by omega
 refine into ?_
 refine LessS_spec.mono ?_
 rintro _ _ ⟨rfl, rfl⟩
 cases hl : ltN d[q + 1]! d[a]! with
 | false =>
  have e := PLift.up (hq'.down.symm.trans (show Sort.scanDown (fun x => !ltN x d[a]!) d i (q + 1) = Sort.scanDown (fun x => !ltN x d[a]!) d i q by conv => lhs; rw [Sort.scanDown, if_pos (by simp [hij, hl])]))
  refine am ?_
  exact ⟨q, by omega, by omega, e.down.symm, byam, rfl⟩
 | true =>
  have e := PLift.up (hq'.down.symm.trans (show Sort.scanDown (fun x => !ltN x d[a]!) d i (q + 1) = q + 1 by rw [Sort.scanDown, if_neg (by simp [hl])]))
  refine am ?_
  refine hQ'.down _ ?_
  rw [e.down]; exact byam
theorem dn4 (h : Pl Mm b) {d : AN} (hd : d.size = n) {a i j : Nat} (ha : a < n) (hj : j < n) (hi : 0 < i) (hn : n < 100000000000000000) (hin : i ≤ n) {fr : Frame} (F : Has fr [(0, sv b n cap ex), (1, .int .i64 (a : Nat)), (10, .int .i64 (i : Nat)), (11, .int .i64 (j : Nat))])
  {Q : AExit → Frame → Mem → Prop} (hQ : ∀ fr', Has fr' [(0, sv b n cap ex), (1, .int .i64 (a : Nat)), (10, .int .i64 (i : Nat)), (11, .int .i64 (Sort.scanDown (fun x => !ltN x d[a]!) d i j : Nat))] → Q (.exit 8) fr' (at_ Mm r d)) :
  W S (.loop slices_partitionOrdered_uint64_l4) fr (at_ Mm r d) Q := by
 have i1 := rowA_load
 have i3 := @ix_at b n cap ex
 have hg0 : ∀ X, (Mm X)[b]? = some X := fun X => by have := h.get X []; simpa using this
 have hQ' := PLift.up hQ
 clear h hQ
 let I := fun (j' : Nat) (fr : Frame) (m' : Mem) => j' ≤ j ∧ Sort.scanDown (fun x => !ltN x d[a]!) d i j' = Sort.scanDown (fun x => !ltN x d[a]!) d i j ∧ Has fr [(0, sv b n cap ex), (1, .int .i64 (a : Nat)), (10, .int .i64 (i : Nat)), (11, .int .i64 (j' : Nat))] ∧ m' = at_ Mm r d
 refine W_loop I ?_ j ⟨Nat.le_refl _, rfl, F, rfl⟩
 clear F
 rintro j' fr _ ⟨hj', hq, F, rfl⟩
 have hq' := PLift.up hq
 clear hq
 by_cases hij : i ≤ j'
 case neg =>
  have c1 : ((i : Int) ≤ (j' : Int)) = False := eq_false (by omega)
  have e := PLift.up (hq'.down.symm.trans (show Sort.scanDown (fun x => !ltN x d[a]!) d i j' = j' by
   cases j' with
   | zero => rfl
   | succ j' => rw [Sort.scanDown, if_neg (by simp only [Bool.and_eq_true, decide_eq_true_eq]; omega)]))
  clear hij
  refine into ?_
  refine hQ'.down _ ?_
  rw [e.down]; exact byam
 obtain ⟨q, rfl⟩ : ∃ q, j' = q + 1 := ⟨j' - 1, by omega⟩
 have c1 : ((i : Int) ≤ ((q + 1 : Nat) : Int)) = True := eq_true (by omega)
 have w1 : IntKind.i64.wrap (((q + 1 : Nat) : Int) - 1) = (q : Int) := by rw [wrap_i64] <;> omega
 have l1 : q + 1 < n := by omega
 have l1' : q + 1 < d.size := by omega
 have la' : a < d.size := by omega
 refine into ?_
 refine LessS_spec.mono ?_
 rintro _ _ ⟨rfl, rfl⟩
 cases hl : ltN d[q + 1]! d[a]! with
 | false =>
  have e := PLift.up (hq'.down.symm.trans (show Sort.scanDown (fun x => !ltN x d[a]!) d i (q + 1) = Sort.scanDown (fun x => !ltN x d[a]!) d i q by conv => lhs; rw [Sort.scanDown, if_pos (by simp [hij, hl])]))
  refine am ?_
  exact ⟨q, by omega, by omega, e.down.symm, byam, rfl⟩
 | true =>
  have e := PLift.up (hq'.down.symm.trans (show Sort.scanDown (fun x => !ltN x d[a]!) d i (q + 1) = q + 1 by rw [Sort.scanDown, if_neg (by simp [hl])]))
  refine am ?_
  refine hQ'.down _ ?_
  rw [e.down]; exact byam
theorem upE (h : Pl Mm b) {d : AN} (hd : d.size = n) {a i j : Nat} (ha : a < n) (hj : j < n) (hn : n < 100000000000000000) {fr : Frame} (F : Has fr [(0, sv b n cap ex), (1, .int .i64 (a : Nat)), (9, .int .i64 (i : Nat)), (10, .int .i64 (j : Nat))])
  {Q : AExit → Frame → Mem → Prop} (hQ : ∀ fr', Has fr' [(0, sv b n cap ex), (1, .int .i64 (a : Nat)), (9, .int .i64 (Sort.scanUp (fun x => !ltN d[a]! x) d j i : Nat)), (10, .int .i64 (j : Nat))] → Q (.exit 2) fr' (at_ Mm r d)) :
  W S (.loop slices_partitionEqualOrdered_uint64_l1) fr (at_ Mm r d) Q := by
 have i1 := rowA_load
 have i3 := @ix_at b n cap ex
 have hg0 : ∀ X, (Mm X)[b]? = some X := fun X => by have := h.get X []; simpa using this
 have hQ' := PLift.up hQ
 clear h hQ
 let I := fun (k : Nat) (fr : Frame) (m' : Mem) => ∃ i' : Nat, k = j + 2 - i' ∧ Sort.scanUp (fun x => !ltN d[a]! x) d j i' = Sort.scanUp (fun x => !ltN d[a]! x) d j i ∧ Has fr [(0, sv b n cap ex), (1, .int .i64 (a : Nat)), (9, .int .i64 (i' : Nat)), (10, .int .i64 (j : Nat))] ∧ m' = at_ Mm r d
 refine W_loop I ?_ (j + 2 - i) ⟨i, rfl, rfl, F, rfl⟩
 clear F
 rintro k fr _ ⟨i', rfl, hq, F, rfl⟩
 have hq' := PLift.up hq
 clear hq
 by_cases hij : i' ≤ j
 case neg =>
  have c1 : ((i' : Int) ≤ (j : Int)) = False := eq_false (by omega)
  have e := PLift.up (hq'.down.symm.trans (show Sort.scanUp (fun x => !ltN d[a]! x) d j i' = i' by rw [Sort.scanUp, if_neg (by simp [hij])]))
  clear hij
  refine into ?_
  refine hQ'.down _ ?_
  rw [e.down]; exact byam
 have c1 : ((i' : Int) ≤ (j : Int)) = True := eq_true (by omega)
 have w1 : IntKind.i64.wrap ((i' : Int) + 1) = ((i' + 1 : Nat) : Int) := by rw [wrap_i64] <;> omega
 have l1 : i' < n := by omega
 have l1' : i' < d.size := by omega
 have la' : a < d.size := by omega
 refine into ?_
 refine LessS_spec.mono ?_
 rintro _ _ ⟨rfl, rfl⟩
 cases hl : ltN d[a]! d[i']! with
 | false =>
  have e := PLift.up (hq'.down.symm.trans (show Sort.scanUp (fun x => !ltN d[a]! x) d j i' = Sort.scanUp (fun x => !ltN d[a]! x) d j (i' + 1) by conv => lhs; rw [Sort.scanUp, if_pos (by simp [hij, hl])]))
  refine am ?_
  exact ⟨j + 2 - (i' + 1), by omega, i' + 1, rfl, e.down.symm, byam, rfl⟩
 | true =>
  have e := PLift.up (hq'.down.symm.trans (show Sort.scanUp (fun x => !ltN d[a]! x) d j i' = i' by rw [Sort.scanUp, if_neg (by simp [hl])]))
  refine am ?_
  refine hQ'.down _ ?_
  rw [e.down]; exact byam
theorem dnE (h : Pl Mm b) {d : AN} (hd : d.size = n) {a i j : Nat} (ha : a < n) (hj : j < n) (hi : 0 < i) (hn : n < 100000000000000000) (hin : i ≤ n) {fr : Frame} (F : Has fr [(0, sv b n cap ex), (1, .int .i64 (a : Nat)), (9, .int .i64 (i : Nat)), (10, .int .i64 (j : Nat))])
  {Q : AExit → Frame → Mem → Prop} (hQ : ∀ fr', Has fr' [(0, sv b n cap ex), (1, .int .i64 (a : Nat)), (9, .int .i64 (i : Nat)), (10, .int .i64 (Sort.scanDown (fun x => ltN d[a]! x) d i j : Nat))] → Q (.exit 4) fr' (at_ Mm r d)) :
  W S (.loop slices_partitionEqualOrdered_uint64_l2) fr (at_ Mm r d) Q := by
 have i1 := rowA_load
 have i3 := @ix_at b n cap ex
 have hg0 : ∀ X, (Mm X)[b]? = some X := fun X => by have := h.get X []; simpa using this
 have hQ' := PLift.up hQ
 clear h hQ
 let I := fun (j' : Nat) (fr : Frame) (m' : Mem) => j' ≤ j ∧ Sort.scanDown (fun x => ltN d[a]! x) d i j' = Sort.scanDown (fun x => ltN d[a]! x) d i j ∧ Has fr [(0, sv b n cap ex), (1, .int .i64 (a : Nat)), (9, .int .i64 (i : Nat)), (10, .int .i64 (j' : Nat))] ∧ m' = at_ Mm r d
 refine W_loop I ?_ j ⟨Nat.le_refl _, rfl, F, rfl⟩
 clear F
 rintro j' fr _ ⟨hj', hq, F, rfl⟩
 have hq' := PLift.up hq
 clear hq
 by_cases hij : i ≤ j'
 case neg =>
  have c1 : ((i : Int) ≤ (j' : Int)) = False := eq_false (by omega)
  have e := PLift.up (hq'.down.symm.trans (show Sort.scanDown (fun x => ltN d[a]! x) d i j' = j' by
   cases j' with
   | zero => rfl
   | succ j' => rw [Sort.scanDown, if_neg (by simp only [Bool.and_eq_true, decide_eq_true_eq]; omega)]))
  clear hij
  refine into ?_
  refine hQ'.down _ ?_
  rw [e.down]; exact byam
 obtain ⟨q, rfl⟩ : ∃ q, j' = q + 1 := ⟨j' - 1, by omega⟩
 have c1 : ((i : Int) ≤ ((q + 1 : Nat) : Int)) = True := eq_true (by omega)
 have w1 : IntKind.i64.wrap (((q + 1 : Nat) : Int) - 1) = (q : Int) := by rw [wrap_i64] <;> omega
 have l1 : q + 1 < n := by omega
 have l1' : q + 1 < d.size := by omega
 have la' : a < d.size := by omega
 refine into ?_
 refine LessS_spec.mono ?_
 rintro _ _ ⟨rfl, rfl⟩
 cases hl : ltN d[a]! d[q + 1]! with
 | true =>
  have e := PLift.up (hq'.down.symm.trans (show Sort.scanDown (fun x => ltN d[a]! x) d i (q + 1) = Sort.scanDown (fun x => ltN d[a]! x) d i q by conv => lhs; rw [Sort.scanDown, if_pos (by simp [hij, hl])]))
  refine am ?_
  exact ⟨q, by omega, by omega, e.down.symm, byam, rfl⟩
 | false =>
  have e := PLift.up (hq'.down.symm.trans (show Sort.scanDown (fun x => ltN d[a]! x) d i (q + 1) = q + 1 by rw [Sort.scanDown, if_neg (by simp [hl])]))
  refine am ?_
  refine hQ'.down _ ?_
  rw [e.down]; exact byam
end
end Go.AM.G
set_option maxRecDepth 100000
namespace Go.AM.G
open Go Go.AM
theorem scanUp_b {p : Nat → Bool} {d : AN} {j i : Nat} (h : i ≤ j + 1) : i ≤ Sort.scanUp p d j i ∧ Sort.scanUp p d j i ≤ j + 1 := by
 fun_induction Sort.scanUp p d j i with
 | case1 i h1 ih =>
  simp only [Bool.and_eq_true, decide_eq_true_eq] at h1
  have := ih (by omega)
  omega
 | case2 i h1 => omega
theorem scanDown_b {p : Nat → Bool} {d : AN} {i : Nat} : ∀ {j : Nat}, i ≤ j + 1 → Sort.scanDown p d i j ≤ j ∧ i ≤ Sort.scanDown p d i j + 1
 | 0, h => ⟨Nat.le_refl _, h⟩
 | j + 1, h => by
  rw [Sort.scanDown]
  split
  ·rename_i h1
   simp only [Bool.and_eq_true, decide_eq_true_eq] at h1
   have := scanDown_b (p := p) (d := d) (j := j) h1.1
   omega
  ·omega
theorem scanUp_ge {p : Nat → Bool} {d : AN} {j i : Nat} : i ≤ Sort.scanUp p d j i := by
 fun_induction Sort.scanUp p d j i with
 | case1 i h1 ih => omega
 | case2 i h1 => omega
theorem scanDown_le {p : Nat → Bool} {d : AN} {i : Nat} : ∀ {j : Nat}, Sort.scanDown p d i j ≤ j
 | 0 => Nat.le_refl _
 | j + 1 => by
  rw [Sort.scanDown]
  split
  ·have := scanDown_le (p := p) (d := d) (i := i) (j := j); omega
  ·omega
theorem scanUp_stop {p : Nat → Bool} {d : AN} {i j : Nat} (h : ¬ i ≤ j) : Sort.scanUp p d j i = i := by rw [Sort.scanUp, if_neg (by simp [h])]
theorem scanDown_stop {p : Nat → Bool} {d : AN} {i j : Nat} (h : ¬ i ≤ j) : Sort.scanDown p d i j = j := by
 cases j with
 | zero => rfl
 | succ j => rw [Sort.scanDown, if_neg (by simp only [Bool.and_eq_true, decide_eq_true_eq]; omega)]
abbrev sU (d : AN) (a i j : Nat) : Nat := Sort.scanUp (fun x => ltN x d[a]!) d j i
abbrev sD (d : AN) (a i j : Nat) : Nat := Sort.scanDown (fun x => !ltN x d[a]!) d i j
theorem partLoop_step {a i j : Nat} {d : AN} : Sort.partLoop ltN a i j d = if sU d a i j > sD d a (sU d a i j) j then (sD d a (sU d a i j) j, d) else Sort.partLoop ltN a (sU d a i j + 1) (sD d a (sU d a i j) j - 1) (Sort.swp d (sU d a i j) (sD d a (sU d a i j) j)) := by
 rw [Sort.partLoop]
 have h1 : i ≤ sU d a i j := scanUp_ge
 have h2 : sD d a (sU d a i j) j ≤ j := scanDown_le
 split
 ·rfl
 ·rename_i h3
  have h3 : ¬ sU d a i j > sD d a (sU d a i j) j := h3
  rw [dif_pos (show sD d a (sU d a i j) j - 1 + 1 - (sU d a i j + 1) < j + 1 - i by omega)]
theorem partLoop_size {a : Nat} : ∀ (k i j : Nat) (d : AN), j + 1 - i ≤ k → (Sort.partLoop ltN a i j d).2.size = d.size
 | k, i, j, d, hk => by
  rw [partLoop_step]
  have h1 : i ≤ sU d a i j := scanUp_ge
  have h2 : sD d a (sU d a i j) j ≤ j := scanDown_le
  split
  ·rfl
  ·rename_i h3
   cases k with
   | zero => omega
   | succ k => rw [partLoop_size k (sU d a i j + 1) (sD d a (sU d a i j) j - 1) _ (by omega), swp_size]
theorem partLoop_at {a : Nat} : ∀ (k i j : Nat) (d : AN), j + 1 - i ≤ k → a < i → a ≤ j → a ≤ (Sort.partLoop ltN a i j d).1 ∧ (Sort.partLoop ltN a i j d).1 ≤ j
 | k, i, j, d, hk, h0, h00 => by
  rw [partLoop_step]
  have h1 : i ≤ sU d a i j := scanUp_ge
  have h2 : sD d a (sU d a i j) j ≤ j := scanDown_le
  split
  ·rename_i h3
   refine ⟨?_, h2⟩
   by_cases h4 : i ≤ j + 1
   ·have h5 := scanUp_b (p := fun x => ltN x d[a]!) (d := d) h4
    have h6 : sD d a (sU d a i j) j ≤ j ∧ sU d a i j ≤ sD d a (sU d a i j) j + 1 := scanDown_b h5.2
    show a ≤ sD d a (sU d a i j) j
    omega
   ·have e1 : sU d a i j = i := scanUp_stop (by omega)
    have e2 : sD d a i j = j := scanDown_stop (by omega)
    show a ≤ sD d a (sU d a i j) j
    rw [e1, e2]; exact h00
  ·rename_i h3
   cases k with
   | zero => omega
   | succ k =>
    have := partLoop_at (a := a) k (sU d a i j + 1) (sD d a (sU d a i j) j - 1) (Sort.swp d (sU d a i j) (sD d a (sU d a i j) j)) (by omega) (by omega) (by omega)
    omega
section
variable {Mm : Blk → Mem} {b n cap : Nat} {ex : Bool} {r : List (List V)}
theorem partition_spec (h : Pl Mm b) {d0 : AN} (hd0 : d0.size = n) {a c p : Nat} (hac : a < c) (hc : c ≤ n) (hp : a ≤ p ∧ p < c) (hn : n < 100000000000000000) :
  C S n_slices_partitionOrdered_uint64 [sv b n cap ex, .int .i64 (a : Nat), .int .i64 (c : Nat), .int .i64 (p : Nat)] (at_ Mm r d0) (fun v m' => v = .tup [.int .i64 ((Sort.partition ltN d0 a c p).1 : Nat), .bool (Sort.partition ltN d0 a c p).2.1] ∧ m' = at_ Mm r (Sort.partition ltN d0 a c p).2.2) := by
 have i1 := rowA_load
 have i2 := rowA_store
 have i3 := @ix_at b n cap ex
 have i4 := rowA_size
 have hg0 : ∀ X, (Mm X)[b]? = some X := fun X => by have := h.get X []; simpa using this
 have hs0 : ∀ X Y, (Mm X).set b Y = Mm Y := fun X Y => by have := h.set X Y []; simpa using this
 have h' := PLift.up h
 clear h
 have w0 : IntKind.i64.wrap ((a : Int) + 1) = ((a + 1 : Nat) : Int) := by rw [wrap_i64] <;> omega
 have w1 : IntKind.i64.wrap ((c : Int) - 1) = ((c - 1 : Nat) : Int) := by rw [wrap_i64] <;> omega
 have la : a < n := by omega
 have lp : p < n := by omega
 have la' : a < d0.size := by omega
 have lp' : p < d0.size := by omega
 obtain ⟨d, ed⟩ : ∃ d, Sort.swp d0 a p = d := ⟨_, rfl⟩
 have hd : d.size = n := by rw [← ed, swp_size]; exact hd0
 have ed' : (d0.setIfInBounds a d0[p]!).setIfInBounds p d0[a]! = d := ed
 obtain ⟨i, ei⟩ : ∃ i, Sort.scanUp (fun x => ltN x d[a]!) d (c - 1) (a + 1) = i := ⟨_, rfl⟩
 obtain ⟨j, ej⟩ : ∃ j, Sort.scanDown (fun x => !ltN x d[a]!) d i (c - 1) = j := ⟨_, rfl⟩
 have b1 := scanUp_b (p := fun x => ltN x d[a]!) (d := d) (j := c - 1) (i := a + 1) (by omega)
 rw [ei] at b1
 have b2 := scanDown_b (p := fun x => !ltN x d[a]!) (d := d) (i := i) (j := c - 1) b1.2
 rw [ej] at b2
 have tgt : PLift (Sort.partition ltN d0 a c p = if i > j then (j, true, Sort.swp d j a) else ((Sort.partLoop ltN a (i + 1) (j - 1) (Sort.swp d i j)).1, false, Sort.swp (Sort.partLoop ltN a (i + 1) (j - 1) (Sort.swp d i j)).2 (Sort.partLoop ltN a (i + 1) (j - 1) (Sort.swp d i j)).1 a)) := ⟨by
  unfold Sort.partition
  dsimp only
  rw [ed, ei, ej]⟩
 have ei' := PLift.up ei
 have ej' := PLift.up ej
 clear ei ej ed
 refine fn rfl ?_
 refine up0 (cap := cap) (ex := ex) (a := a) (i := a + 1) (j := c - 1) h'.down hd la (by omega) hn byam ?_
 intro fr F
 rw [ei'.down] at F
 refine am ?_
 refine dn1 (cap := cap) (ex := ex) (a := a) (i := i) (j := c - 1) h'.down hd la (by omega) (by omega) hn (by omega) byam ?_
 intro fr F
 rw [ej'.down] at F
 have ljn : j < n := by omega
 have lj' : j < d.size := by omega
 have lad : a < d.size := by omega
 by_cases hij : j < i
 ·have c1 : ((j : Int) < (i : Int)) = True := eq_true (by omega)
  have e := PLift.up (tgt.down.trans (if_pos hij))
  clear tgt
  refine am ?_
  rw [e.down]; exact ⟨rfl, rfl⟩
 have c1 : ((j : Int) < (i : Int)) = False := eq_false (by omega)
 have e := PLift.up (tgt.down.trans (if_neg hij))
 clear tgt
 have lin : i < n := by omega
 have li' : i < d.size := by omega
 have w2 : IntKind.i64.wrap ((i : Int) + 1) = ((i + 1 : Nat) : Int) := by rw [wrap_i64] <;> omega
 have w3 : IntKind.i64.wrap ((j : Int) - 1) = ((j - 1 : Nat) : Int) := by rw [wrap_i64] <;> omega
 refine am ?_
 let I := fun (k : Nat) (fr : Frame) (m' : Mem) => ∃ (i' j' : Nat) (d' : AN), k = j' + 2 - i' ∧ a < i' ∧ a ≤ j' ∧ i' ≤ j' + 2 ∧ j' < n ∧ i' ≤ n ∧ d'.size = n ∧ Sort.partLoop ltN a i' j' d' = Sort.partLoop ltN a (i + 1) (j - 1) (Sort.swp d i j) ∧ Has fr [(0, sv b n cap ex), (1, .int .i64 (a : Nat)), (10, .int .i64 (i' : Nat)), (11, .int .i64 (j' : Nat))] ∧ m' = at_ Mm r d'
 refine W_loop I ?_ (j - 1 + 2 - (i + 1)) ⟨i + 1, j - 1, Sort.swp d i j, rfl, by omega, by omega, by omega, by omega, by omega, by rw [swp_size]; exact hd, rfl, byam, rfl⟩
 clear F
 rintro k fr _ ⟨i', j', d', rfl, hai', haj', hij', hjn', hin', hd', hq, F, rfl⟩
 have hq' := PLift.up hq
 clear hq
 obtain ⟨u, eu⟩ : ∃ u, sU d' a i' j' = u := ⟨_, rfl⟩
 obtain ⟨v, ev⟩ : ∃ v, sD d' a u j' = v := ⟨_, rfl⟩
 have bu : i' ≤ u ∧ (i' ≤ j' + 1 → u ≤ j' + 1) ∧ (¬ i' ≤ j' + 1 → u = i') := by
  rw [← eu]
  exact ⟨scanUp_ge, fun h => (scanUp_b h).2, fun h => scanUp_stop (by omega)⟩
 have bv : v ≤ j' ∧ (u ≤ j' + 1 → u ≤ v + 1) ∧ (¬ u ≤ j' + 1 → v = j') := by
  rw [← ev]
  exact ⟨scanDown_le, fun h => (scanDown_b h).2, fun h => scanDown_stop (by omega)⟩
 have stp : PLift (Sort.partLoop ltN a i' j' d' = if u > v then (v, d') else Sort.partLoop ltN a (u + 1) (v - 1) (Sort.swp d' u v)) := ⟨by rw [partLoop_step, eu, ev]⟩
 have hun : u ≤ n := by
  by_cases h : i' ≤ j' + 1
  ·have := bu.2.1 h; omega
  ·have := bu.2.2 h; omega
 have hav : a ≤ v := by
  by_cases h : u ≤ j' + 1
  ·have := bv.2.1 h; omega
  ·have := bv.2.2 h; omega
 have hv : v ≤ j' := bv.1
 have hu : i' ≤ u := bu.1
 have eu' := PLift.up eu
 have ev' := PLift.up ev
 clear eu ev bu bv
 have lvn : v < n := by omega
 have lv' : v < d'.size := by omega
 have lad' : a < d'.size := by omega
 refine into ?_
 refine up3 (cap := cap) (ex := ex) (a := a) (i := i') (j := j') h'.down hd' la hjn' hn byam ?_
 clear F
 intro fr F
 rw [show Sort.scanUp (fun x => ltN x d'[a]!) d' j' i' = u from eu'.down] at F
 refine am ?_
 refine dn4 (cap := cap) (ex := ex) (a := a) (i := u) (j := j') h'.down hd' la hjn' (by omega) hn hun byam ?_
 clear F
 intro fr F
 rw [show Sort.scanDown (fun x => !ltN x d'[a]!) d' u j' = v from ev'.down] at F
 by_cases hvu : v < u
 ·have c2 : ((v : Int) < (u : Int)) = True := eq_true (by omega)
  have e2 := PLift.up (hq'.down.symm.trans (stp.down.trans (if_pos hvu)))
  clear stp
  refine am ?_
  rw [e.down, e2.down]; exact ⟨rfl, rfl⟩
 have c2 : ((v : Int) < (u : Int)) = False := eq_false (by omega)
 have e2 := PLift.up (hq'.down.symm.trans (stp.down.trans (if_neg hvu)))
 clear stp
 have lun : u < n := by omega
 have lu' : u < d'.size := by omega
 have w4 : IntKind.i64.wrap ((u : Int) + 1) = ((u + 1 : Nat) : Int) := by rw [wrap_i64] <;> omega
 have w5 : IntKind.i64.wrap ((v : Int) - 1) = ((v - 1 : Nat) : Int) := by rw [wrap_i64] <;> omega
 refine am ?_
 exact ⟨v - 1 + 2 - (u + 1), by omega, u + 1, v - 1, Sort.swp d' u v, rfl, by omega, by omega, by omega, by omega, by omega, by rw [swp_size]; exact hd', e2.down.symm, byam, rfl⟩
end
end Go.AM.G
set_option maxRecDepth 100000
namespace Go.AM.G
open Go Go.AM
abbrev sUe (d : AN) (a i j : Nat) : Nat := Sort.scanUp (fun x => !ltN d[a]! x) d j i
abbrev sDe (d : AN) (a i j : Nat) : Nat := Sort.scanDown (fun x => ltN d[a]! x) d i j
theorem partEq_step {a i j : Nat} {d : AN} : Sort.partEqLoop ltN a i j d = if sUe d a i j > sDe d a (sUe d a i j) j then (sUe d a i j, d) else Sort.partEqLoop ltN a (sUe d a i j + 1) (sDe d a (sUe d a i j) j - 1) (Sort.swp d (sUe d a i j) (sDe d a (sUe d a i j) j)) := by
 rw [Sort.partEqLoop]
 have h1 : i ≤ sUe d a i j := scanUp_ge
 have h2 : sDe d a (sUe d a i j) j ≤ j := scanDown_le
 split
 ·rfl
 ·rename_i h3
  have h3 : ¬ sUe d a i j > sDe d a (sUe d a i j) j := h3
  rw [dif_pos (show sDe d a (sUe d a i j) j - 1 + 1 - (sUe d a i j + 1) < j + 1 - i by omega)]
theorem partEq_size {a : Nat} : ∀ (k i j : Nat) (d : AN), j + 1 - i ≤ k → (Sort.partEqLoop ltN a i j d).2.size = d.size
 | k, i, j, d, hk => by
  rw [partEq_step]
  have h1 : i ≤ sUe d a i j := scanUp_ge
  have h2 : sDe d a (sUe d a i j) j ≤ j := scanDown_le
  split
  ·rfl
  ·rename_i h3
   cases k with
   | zero => omega
   | succ k => rw [partEq_size k (sUe d a i j + 1) (sDe d a (sUe d a i j) j - 1) _ (by omega), swp_size]
theorem partEq_at {a c : Nat} : ∀ (k i j : Nat) (d : AN), j + 1 - i ≤ k → a < i → i ≤ c → j < c → a < (Sort.partEqLoop ltN a i j d).1 ∧ (Sort.partEqLoop ltN a i j d).1 ≤ c
 | k, i, j, d, hk, h0, h00, hj => by
  rw [partEq_step]
  have h1 : i ≤ sUe d a i j := scanUp_ge
  have h2 : sDe d a (sUe d a i j) j ≤ j := scanDown_le
  split
  ·rename_i h3
   by_cases h4 : i ≤ j + 1
   ·have h5 : i ≤ sUe d a i j ∧ sUe d a i j ≤ j + 1 := scanUp_b h4
    show a < sUe d a i j ∧ sUe d a i j ≤ c
    omega
   ·have e1 : sUe d a i j = i := scanUp_stop (by omega)
    show a < sUe d a i j ∧ sUe d a i j ≤ c
    omega
  ·rename_i h3
   cases k with
   | zero => omega
   | succ k => exact partEq_at (a := a) (c := c) k (sUe d a i j + 1) (sDe d a (sUe d a i j) j - 1) (Sort.swp d (sUe d a i j) (sDe d a (sUe d a i j) j)) (by omega) (by omega) (by omega) (by omega)
section
variable {Mm : Blk → Mem} {b n cap : Nat} {ex : Bool} {r : List (List V)}
theorem partEq_spec (h : Pl Mm b) {d0 : AN} (hd0 : d0.size = n) {a c p : Nat} (hac : a < c) (hc : c ≤ n) (hp : a ≤ p ∧ p < c) (hn : n < 100000000000000000) :
  C S n_slices_partitionEqualOrdered_uint64 [sv b n cap ex, .int .i64 (a : Nat), .int .i64 (c : Nat), .int .i64 (p : Nat)] (at_ Mm r d0) (fun v m' => v = .int .i64 ((Sort.partitionEqual ltN d0 a c p).1 : Nat) ∧ m' = at_ Mm r (Sort.partitionEqual ltN d0 a c p).2) := by
 have i1 := rowA_load
 have i2 := rowA_store
 have i3 := @ix_at b n cap ex
 have i4 := rowA_size
 have hg0 : ∀ X, (Mm X)[b]? = some X := fun X => by have := h.get X []; simpa using this
 have hs0 : ∀ X Y, (Mm X).set b Y = Mm Y := fun X Y => by have := h.set X Y []; simpa using this
 have h' := PLift.up h
 clear h
 have w0 : IntKind.i64.wrap ((a : Int) + 1) = ((a + 1 : Nat) : Int) := by rw [wrap_i64] <;> omega
 have w1 : IntKind.i64.wrap ((c : Int) - 1) = ((c - 1 : Nat) : Int) := by rw [wrap_i64] <;> omega
 have la : a < n := by omega
 have lp : p < n := by omega
 have la' : a < d0.size := by omega
 have lp' : p < d0.size := by omega
 obtain ⟨d, ed⟩ : ∃ d, Sort.swp d0 a p = d := ⟨_, rfl⟩
 have hd : d.size = n := by rw [← ed, swp_size]; exact hd0
 have ed' : (d0.setIfInBounds a d0[p]!).setIfInBounds p d0[a]! = d := ed
 have tgt : PLift (Sort.partitionEqual ltN d0 a c p = Sort.partEqLoop ltN a (a + 1) (c - 1) d) := ⟨by
  unfold Sort.partitionEqual
  rw [ed]⟩
 clear ed
 refine fn rfl ?_
 let I := fun (k : Nat) (fr : Frame) (m' : Mem) => ∃ (i' j' : Nat) (d' : AN), k = j' + 2 - i' ∧ a < i' ∧ a ≤ j' ∧ i' ≤ j' + 2 ∧ j' < n ∧ i' ≤ n ∧ d'.size = n ∧ Sort.partEqLoop ltN a i' j' d' = Sort.partEqLoop ltN a (a + 1) (c - 1) d ∧ Has fr [(0, sv b n cap ex), (1, .int .i64 (a : Nat)), (9, .int .i64 (i' : Nat)), (10, .int .i64 (j' : Nat))] ∧ m' = at_ Mm r d'
 refine W_loop I ?_ (c - 1 + 2 - (a + 1)) ⟨a + 1, c - 1, d, rfl, by omega, by omega, by omega, by omega, by omega, hd, rfl, byam, rfl⟩
 rintro k fr _ ⟨i', j', d', rfl, hai', haj', hij', hjn', hin', hd', hq, F, rfl⟩
 have hq' := PLift.up hq
 clear hq
 obtain ⟨u, eu⟩ : ∃ u, sUe d' a i' j' = u := ⟨_, rfl⟩
 obtain ⟨v, ev⟩ : ∃ v, sDe d' a u j' = v := ⟨_, rfl⟩
 have bu : i' ≤ u ∧ (i' ≤ j' + 1 → u ≤ j' + 1) ∧ (¬ i' ≤ j' + 1 → u = i') := by
  rw [← eu]
  exact ⟨scanUp_ge, fun h => (scanUp_b h).2, fun h => scanUp_stop (by omega)⟩
 have bv : v ≤ j' ∧ (u ≤ j' + 1 → u ≤ v + 1) ∧ (¬ u ≤ j' + 1 → v = j') := by
  rw [← ev]
  exact ⟨scanDown_le, fun h => (scanDown_b h).2, fun h => scanDown_stop (by omega)⟩
 have stp : PLift (Sort.partEqLoop ltN a i' j' d' = if u > v then (u, d') else Sort.partEqLoop ltN a (u + 1) (v - 1) (Sort.swp d' u v)) := ⟨by rw [partEq_step, eu, ev]⟩
 have hun : u ≤ n := by
  by_cases h : i' ≤ j' + 1
  ·have := bu.2.1 h; omega
  ·have := bu.2.2 h; omega
 have hav : a ≤ v := by
  by_cases h : u ≤ j' + 1
  ·have := bv.2.1 h; omega
  ·have := bv.2.2 h; omega
 have hv : v ≤ j' := bv.1
 have hu : i' ≤ u := bu.1
 have eu' := PLift.up eu
 have ev' := PLift.up ev
 clear eu ev bu bv
 have lvn : v < n := by omega
 have lv' : v < d'.size := by omega
 have lad' : a < d'.size := by omega
 refine into ?_
 refine upE (cap := cap) (ex := ex) (a := a) (i := i') (j := j') h'.down hd' la hjn' hn byam ?_
 clear F
 intro fr F
 rw [show Sort.scanUp (fun x => !ltN d'[a]! x) d' j' i' = u from eu'.down] at F
 refine am ?_
 refine dnE (cap := cap) (ex := ex) (a := a) (i := u) (j := j') h'.down hd' la hjn' (by omega) hn hun byam ?_
 clear F
 intro fr F
 rw [show Sort.scanDown (fun x => ltN d'[a]! x) d' u j' = v from ev'.down] at F
 by_cases hvu : v < u
 ·have c2 : ((v : Int) < (u : Int)) = True := eq_true (by omega)
  have e2 := PLift.up (hq'.down.symm.trans (stp.down.trans (if_pos hvu)))
  clear stp
  refine am ?_
  rw [tgt.down, e2.down]; exact ⟨rfl, rfl⟩
 have c2 : ((v : Int) < (u : Int)) = False := eq_false (by omega)
 have e2 := PLift.up (hq'.down.symm.trans (stp.down.trans (if_neg hvu)))
 clear stp
 have lun : u < n := by omega
 have lu' : u < d'.size := by omega
 have w4 : IntKind.i64.wrap ((u : Int) + 1) = ((u + 1 : Nat) : Int) := by rw [wrap_i64] <;> omega
 have w5 : IntKind.i64.wrap ((v : Int) - 1) = ((v - 1 : Nat) : Int) := by rw [wrap_i64] <;> omega
 refine am ?_
 exact ⟨v - 1 + 2 - (u + 1), by omega, u + 1, v - 1, Sort.swp d' u v, rfl, by omega, by omega, by omega, by omega, by omega, by rw [swp_size]; exact hd', e2.down.symm, byam, rfl⟩
end
end Go.AM.G
