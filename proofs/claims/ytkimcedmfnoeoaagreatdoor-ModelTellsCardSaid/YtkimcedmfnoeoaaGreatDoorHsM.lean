/- The sort's round: behind the choice of a word. -/
import Derived.Test.YtkimcedmfnoeoaaGreatDoorHsJ
set_option linter.unusedVariables false
set_option linter.unusedSimpArgs false
set_option maxRecDepth 100000
namespace Go.AM.G
open Go Go.AM
def T0 (d : AN) (a c lim : Nat) (wb wp : Bool) (p : Nat) : AN :=
 if (decide (a > 0) && !ltN d[a - 1]! d[p]!) = true then
  match Sort.partitionEqual ltN d a c p with
  | (mid, d4) => if a < mid ∧ mid ≤ c then Sort.pdq ltN d4 mid c lim wb wp else d4
 else
  match Sort.partition ltN d a c p with
  | (mid, ap, d4) =>
   if a ≤ mid ∧ mid < c then
    if mid - a < c - mid then Sort.pdq ltN (Sort.pdq ltN d4 a mid lim true true) (mid + 1) c lim (decide (mid - a ≥ (c - a) / 8)) ap
    else Sort.pdq ltN (Sort.pdq ltN d4 (mid + 1) c lim true true) a mid lim (decide (c - mid ≥ (c - a) / 8)) ap
   else d4
def T1 (d : AN) (a c lim : Nat) (wb wp : Bool) (p : Nat) (x : Sort.Hint) : AN :=
 if (if (wb && wp && decide (x = .increasing)) = true then Sort.partialInsertionSort ltN d a c else (d, false)).2 = true then (if (wb && wp && decide (x = .increasing)) = true then Sort.partialInsertionSort ltN d a c else (d, false)).1
 else T0 (if (wb && wp && decide (x = .increasing)) = true then Sort.partialInsertionSort ltN d a c else (d, false)).1 a c lim wb wp p
def T2 (d : AN) (a c lim : Nat) (wb wp : Bool) : AN :=
 T1 (if (Sort.choosePivot ltN d a c).2 = .decreasing then Sort.reverseRange d a c else d) a c lim wb wp (if (Sort.choosePivot ltN d a c).2 = .decreasing then (c - 1) - ((Sort.choosePivot ltN d a c).1 - a) else (Sort.choosePivot ltN d a c).1) (if (Sort.choosePivot ltN d a c).2 = .decreasing then .increasing else (Sort.choosePivot ltN d a c).2)
theorem pdq_eq (d : AN) (a c lim : Nat) (wb wp : Bool) : Sort.pdq ltN d a c lim wb wp = if c - a ≤ 12 then Sort.insertionSort ltN d a c else if lim = 0 then Sort.heapSort ltN d a c else T2 (if (!wb) = true then Sort.breakPatterns d a c else d) a c (if (!wb) = true then lim - 1 else lim) wb wp := by
 rw [Sort.pdq]
 rfl
theorem partition_at {d : AN} {a c p : Nat} (hac : a < c) : a ≤ (Sort.partition ltN d a c p).1 ∧ (Sort.partition ltN d a c p).1 < c := by
 unfold Sort.partition
 dsimp only
 have h1 := scanUp_b (p := fun x => ltN x (Sort.swp d a p)[a]!) (d := Sort.swp d a p) (j := c - 1) (i := a + 1) (by omega)
 have h2 := scanDown_b (p := fun x => !ltN x (Sort.swp d a p)[a]!) (d := Sort.swp d a p) (i := Sort.scanUp (fun x => ltN x (Sort.swp d a p)[a]!) (Sort.swp d a p) (c - 1) (a + 1)) (j := c - 1) h1.2
 split
 ·dsimp only; omega
 ·rename_i h3
  dsimp only
  have := partLoop_at (a := a) _ (Sort.scanUp (fun x => ltN x (Sort.swp d a p)[a]!) (Sort.swp d a p) (c - 1) (a + 1) + 1) (Sort.scanDown (fun x => !ltN x (Sort.swp d a p)[a]!) (Sort.swp d a p) (Sort.scanUp (fun x => ltN x (Sort.swp d a p)[a]!) (Sort.swp d a p) (c - 1) (a + 1)) (c - 1) - 1) (Sort.swp (Sort.swp d a p) (Sort.scanUp (fun x => ltN x (Sort.swp d a p)[a]!) (Sort.swp d a p) (c - 1) (a + 1)) (Sort.scanDown (fun x => !ltN x (Sort.swp d a p)[a]!) (Sort.swp d a p) (Sort.scanUp (fun x => ltN x (Sort.swp d a p)[a]!) (Sort.swp d a p) (c - 1) (a + 1)) (c - 1))) (Nat.le_refl _) (by omega) (by omega)
  omega
theorem partition_size {d : AN} {a c p : Nat} : (Sort.partition ltN d a c p).2.2.size = d.size := by
 unfold Sort.partition
 dsimp only
 split
 ·dsimp only; rw [swp_size, swp_size]
 ·dsimp only; rw [swp_size, partLoop_size _ _ _ _ (Nat.le_refl _), swp_size, swp_size]
theorem partitionEq_size {d : AN} {a c p : Nat} : (Sort.partitionEqual ltN d a c p).2.size = d.size := by
 unfold Sort.partitionEqual
 rw [partEq_size _ _ _ _ (Nat.le_refl _), swp_size]
section
variable {Mm : Blk → Mem} {b n cap : Nat} {ex : Bool} {r : List (List V)}
theorem pdq_j0 (h : Pl Mm b) {d : AN} (hd : d.size = n) {a c p lim : Nat} {wb wp : Bool} (hac : a + 12 < c) (hc : c ≤ n) (hp : a ≤ p ∧ p < c) (hn : n < 100000000000000000)
  (ih : ∀ (Mm' : Blk → Mem) (d' : AN) (a' c' : Nat), Pl Mm' b → d'.size = n → a' ≤ c' → c' ≤ n → c' - a' < c - a → C S n_slices_pdqsortOrdered_uint64 [sv b n cap ex, .int .i64 (a' : Nat), .int .i64 (c' : Nat), .int .i64 (lim : Nat)] (at_ Mm' r d') (fun v m' => v = .tup [] ∧ ∃ g, m' = at_ Mm' r (Sort.pdq ltN d' a' c' lim true true) ++ g ∧ (Sort.pdq ltN d' a' c' lim true true).size = n))
  {fr : Frame} (F : Has fr [(0, sv b n cap ex), (1, .int .i64 (a : Nat)), (2, .int .i64 (c : Nat)), (3, .int .i64 (lim : Nat)), (8, .bool wb), (9, .bool wp), (10, .int .i64 ((c - a : Nat) : Nat)), (11, .int .i64 (p : Nat))]) {Q : AExit → Frame → Mem → Prop}
  (hQ : ∀ e fr' d2 a2 c2 wb2 wp2 g, (e = .normal ∨ e = .exit 1) → Has fr' [(0, sv b n cap ex), (1, .int .i64 (a2 : Nat)), (2, .int .i64 (c2 : Nat)), (3, .int .i64 (lim : Nat)), (8, .bool wb2), (9, .bool wp2)] → d2.size = n → a2 ≤ c2 → c2 ≤ n → c2 - a2 < c - a → Sort.pdq ltN d2 a2 c2 lim wb2 wp2 = T0 d a c lim wb wp p → Q e fr' (at_ Mm r d2 ++ g)) :
  W S slices_pdqsortOrdered_uint64_j0 fr (at_ Mm r d) Q := by
 have i1 := rowA_load
 have i3 := @ix_at b n cap ex
 have hg0 : ∀ X, (Mm X)[b]? = some X := fun X => by have := h.get X []; simpa using this
 have h' := PLift.up h
 have hQ' := PLift.up hQ
 have ih' := PLift.up ih
 clear h hQ ih
 have lp : p < n := by omega
 have lp' : p < d.size := by omega
 have pe := PLift.up (@partEq_at a c _ (a + 1) (c - 1) (Sort.swp d a p) (Nat.le_refl _) (by omega) (by omega) (by omega))
 have pp := PLift.up (@partition_at d a c p (by omega))
 have pz := PLift.up (@partition_size d a c p)
 have pez := PLift.up (@partitionEq_size d a c p)
 -- the split of those that are not alike
 have rest : ∀ (fr' : Frame), Has fr' [(0, sv b n cap ex), (1, .int .i64 (a : Nat)), (2, .int .i64 (c : Nat)), (3, .int .i64 (lim : Nat)), (8, .bool wb), (9, .bool wp), (10, .int .i64 ((c - a : Nat) : Nat)), (11, .int .i64 (p : Nat))] → True := fun _ _ => trivial
 clear rest
 obtain ⟨mid, em⟩ : ∃ mid, (Sort.partition ltN d a c p).1 = mid := ⟨_, rfl⟩
 obtain ⟨ap, eap⟩ : ∃ ap, (Sort.partition ltN d a c p).2.1 = ap := ⟨_, rfl⟩
 obtain ⟨d4, ed4⟩ : ∃ d4, (Sort.partition ltN d a c p).2.2 = d4 := ⟨_, rfl⟩
 have epart : Sort.partition ltN d a c p = (mid, ap, d4) := by rw [← em, ← eap, ← ed4]
 have hm : a ≤ mid ∧ mid < c := by rw [← em]; exact pp.down
 have hd4 : d4.size = n := by rw [← ed4, pz.down]; exact hd
 have t0p : ¬ (decide (a > 0) && !ltN d[a - 1]! d[p]!) = true → PLift (T0 d a c lim wb wp p = if mid - a < c - mid then Sort.pdq ltN (Sort.pdq ltN d4 a mid lim true true) (mid + 1) c lim (decide (mid - a ≥ (c - a) / 8)) ap else Sort.pdq ltN (Sort.pdq ltN d4 (mid + 1) c lim true true) a mid lim (decide (c - mid ≥ (c - a) / 8)) ap) := fun hh => ⟨by
  unfold T0
  rw [if_neg hh, epart]
  dsimp only
  rw [if_pos hm]⟩
 have t0p' := PLift.up t0p
 have em' := PLift.up em
 have eap' := PLift.up eap
 have ed4' := PLift.up ed4
 clear t0p em eap ed4 epart pp pz
 have w1 : IntKind.i64.wrap ((mid : Int) - (a : Int)) = ((mid - a : Nat) : Int) := by rw [wrap_i64] <;> omega
 have w2 : IntKind.i64.wrap ((c : Int) - (mid : Int)) = ((c - mid : Nat) : Int) := by rw [wrap_i64] <;> omega
 have w3 : IntKind.i64.wrap ((mid : Int) + 1) = ((mid + 1 : Nat) : Int) := by rw [wrap_i64] <;> omega
 have w4 : ((c - a : Nat) : Int).tdiv 8 = (((c - a) / 8 : Nat) : Int) := tdivN (b := 8)
 have w5 : IntKind.i64.wrap (((c - a) / 8 : Nat) : Int) = (((c - a) / 8 : Nat) : Int) := by rw [wrap_i64] <;> omega
 have c8 : ((8 : Int) = 0) = False := by decide
 have db1 : decide ((((c - a) / 8 : Nat) : Int) ≤ ((mid - a : Nat) : Int)) = decide (mid - a ≥ (c - a) / 8) := decide_eq_decide.2 (by omega)
 have db2 : decide ((((c - a) / 8 : Nat) : Int) ≤ ((c - mid : Nat) : Int)) = decide (c - mid ≥ (c - a) / 8) := decide_eq_decide.2 (by omega)
 by_cases ha0 : 0 < a
 case neg =>
  have c1 : ((0 : Int) < (a : Int)) = False := eq_false (by omega)
  have t := t0p'.down (by simp [ha0])
  clear t0p'
  refine into ?_
  refine (partition_spec h'.down hd (by omega) hc hp hn).mono ?_
  rintro _ _ ⟨rfl, rfl⟩
  rw [em'.down, eap'.down, ed4'.down]
  by_cases hlr : mid - a < c - mid
  ·have c2 : (((mid - a : Nat) : Int) < ((c - mid : Nat) : Int)) = True := eq_true (by omega)
   have t' := PLift.up (t.down.trans (if_pos hlr))
   clear t
   refine am ?_
   refine (ih'.down Mm d4 a mid h'.down hd4 hm.1 (by omega) (by omega)).mono ?_
   rintro _ _ ⟨rfl, g, rfl, hz⟩
   have hz' := PLift.up hz
   clear hz
   refine am ?_
   exact hQ'.down .normal _ (Sort.pdq ltN d4 a mid lim true true) (mid + 1) c (decide (mid - a ≥ (c - a) / 8)) ap g (.inl rfl) byam hz'.down (by omega) hc (by omega) t'.down.symm
  ·have c2 : (((mid - a : Nat) : Int) < ((c - mid : Nat) : Int)) = False := eq_false (by omega)
   have t' := PLift.up (t.down.trans (if_neg hlr))
   clear t
   refine am ?_
   refine (ih'.down Mm d4 (mid + 1) c h'.down hd4 (by omega) hc (by omega)).mono ?_
   rintro _ _ ⟨rfl, g, rfl, hz⟩
   have hz' := PLift.up hz
   clear hz
   refine am ?_
   exact hQ'.down .normal _ (Sort.pdq ltN d4 (mid + 1) c lim true true) a mid (decide (c - mid ≥ (c - a) / 8)) ap g (.inl rfl) byam hz'.down hm.1 (by omega) (by omega) t'.down.symm
 have c1 : ((0 : Int) < (a : Int)) = True := eq_true (by omega)
 have w6 : IntKind.i64.wrap ((a : Int) - 1) = ((a - 1 : Nat) : Int) := by rw [wrap_i64] <;> omega
 have la : a - 1 < n := by omega
 have la' : a - 1 < d.size := by omega
 refine into ?_
 refine LessS_spec.mono ?_
 rintro _ _ ⟨rfl, rfl⟩
 cases hl : ltN d[a - 1]! d[p]! with
 | true =>
  have t := t0p'.down (by rw [hl]; simp)
  clear t0p'
  refine am ?_
  refine (partition_spec h'.down hd (by omega) hc hp hn).mono ?_
  rintro _ _ ⟨rfl, rfl⟩
  rw [em'.down, eap'.down, ed4'.down]
  by_cases hlr : mid - a < c - mid
  ·have c2 : (((mid - a : Nat) : Int) < ((c - mid : Nat) : Int)) = True := eq_true (by omega)
   have t' := PLift.up (t.down.trans (if_pos hlr))
   clear t
   refine am ?_
   refine (ih'.down Mm d4 a mid h'.down hd4 hm.1 (by omega) (by omega)).mono ?_
   rintro _ _ ⟨rfl, g, rfl, hz⟩
   have hz' := PLift.up hz
   clear hz
   refine am ?_
   exact hQ'.down .normal _ (Sort.pdq ltN d4 a mid lim true true) (mid + 1) c (decide (mid - a ≥ (c - a) / 8)) ap g (.inl rfl) byam hz'.down (by omega) hc (by omega) t'.down.symm
  ·have c2 : (((mid - a : Nat) : Int) < ((c - mid : Nat) : Int)) = False := eq_false (by omega)
   have t' := PLift.up (t.down.trans (if_neg hlr))
   clear t
   refine am ?_
   refine (ih'.down Mm d4 (mid + 1) c h'.down hd4 (by omega) hc (by omega)).mono ?_
   rintro _ _ ⟨rfl, g, rfl, hz⟩
   have hz' := PLift.up hz
   clear hz
   refine am ?_
   exact hQ'.down .normal _ (Sort.pdq ltN d4 (mid + 1) c lim true true) a mid (decide (c - mid ≥ (c - a) / 8)) ap g (.inl rfl) byam hz'.down hm.1 (by omega) (by omega) t'.down.symm
 | false =>
  clear t0p'
  have hm2 : a < (Sort.partitionEqual ltN d a c p).1 ∧ (Sort.partitionEqual ltN d a c p).1 ≤ c := pe.down
  have t : PLift (T0 d a c lim wb wp p = Sort.pdq ltN (Sort.partitionEqual ltN d a c p).2 (Sort.partitionEqual ltN d a c p).1 c lim wb wp) := ⟨by
   unfold T0
   rw [if_pos (by rw [hl]; simp [ha0])]
   dsimp only
   rw [if_pos hm2]⟩
  refine am ?_
  refine (partEq_spec h'.down hd (by omega) hc hp hn).mono ?_
  rintro _ _ ⟨rfl, rfl⟩
  have hm3 := PLift.up hm2
  clear hm2
  refine am ?_
  have key := fun fr' => hQ'.down (.exit 1) fr' (Sort.partitionEqual ltN d a c p).2 (Sort.partitionEqual ltN d a c p).1 c wb wp [] (.inr rfl)
  simp only [List.append_nil] at key
  exact key _ byam (by rw [pez.down]; exact hd) (by have := hm3.down; omega) hc (by have := hm3.down; omega) t.down.symm
end
end Go.AM.G
set_option maxRecDepth 100000
namespace Go.AM.G
open Go Go.AM
theorem inner_size {a : Nat} : ∀ (j : Nat) (d : AN), (Sort.insInner ltN a j d).size = d.size
 | 0, _ => rfl
 | j + 1, d => by
  rw [Sort.insInner]
  split
  ·rw [inner_size, swp_size]
  ·rfl
theorem outer_size {a c : Nat} : ∀ (k i : Nat) (d : AN), c - i ≤ k → (Sort.insOuter ltN a c i d).size = d.size
 | k, i, d, hk => by
  rw [Sort.insOuter]
  split
  ·cases k with
   | zero => omega
   | succ k => rw [outer_size k _ _ (by omega), inner_size]
  ·rfl
theorem ins_size {a c : Nat} {d : AN} : (Sort.insertionSort ltN d a c).size = d.size := outer_size _ _ _ (Nat.le_refl _)
theorem heap_size {a c : Nat} {d : AN} : (Sort.heapSort ltN d a c).size = d.size := by rw [Sort.heapSort, pop_size, build_size]
theorem fin_size {a l M i0 : Nat} : ∀ (k : Nat) (st : UInt64 × AN), (finB a l M i0 k st).size = st.2.size
 | 0, _ => rfl
 | k + 1, st => by rw [finB, fin_size]; exact swp_size _ _ _
theorem break_size {a c : Nat} {d : AN} : (Sort.breakPatterns d a c).size = d.size := by
 by_cases h : 8 ≤ c - a
 ·rw [break_eq h, fin_size]
 ·rw [break_small (by omega)]
theorem reverse_size {a c : Nat} {d : AN} : (Sort.reverseRange d a c).size = d.size := rev_size
theorem pi_size {a c : Nat} {d : AN} : (Sort.partialInsertionSort ltN d a c).1.size = d.size := part_size
theorem choose_at {d : AN} {a c : Nat} (h : a < c) : a ≤ (Sort.choosePivot ltN d a c).1 ∧ (Sort.choosePivot ltN d a c).1 < c := Sort.choosePivot_holds ltN d a c h
def Ih (b n cap : Nat) (ex : Bool) (r : List (List V)) (lim k : Nat) : Prop :=
 ∀ (Mm' : Blk → Mem) (d' : AN) (a' c' : Nat), Pl Mm' b → d'.size = n → a' ≤ c' → c' ≤ n → c' - a' < k → C S n_slices_pdqsortOrdered_uint64 [sv b n cap ex, .int .i64 (a' : Nat), .int .i64 (c' : Nat), .int .i64 (lim : Nat)] (at_ Mm' r d') (fun v m' => v = .tup [] ∧ ∃ g, m' = at_ Mm' r (Sort.pdq ltN d' a' c' lim true true) ++ g ∧ (Sort.pdq ltN d' a' c' lim true true).size = n)
section
variable {Mm : Blk → Mem} {b n cap : Nat} {ex : Bool} {r : List (List V)}
theorem pdq_j1 (h : Pl Mm b) {d : AN} (hd : d.size = n) {a c p lim : Nat} {wb wp : Bool} {x : Sort.Hint} (hac : a + 12 < c) (hc : c ≤ n) (hp : a ≤ p ∧ p < c) (hn : n < 100000000000000000) (ih : Ih b n cap ex r lim (c - a))
  {fr : Frame} (F : Has fr [(0, sv b n cap ex), (1, .int .i64 (a : Nat)), (2, .int .i64 (c : Nat)), (3, .int .i64 (lim : Nat)), (8, .bool wb), (9, .bool wp), (10, .int .i64 ((c - a : Nat) : Nat)), (11, .int .i64 (p : Nat)), (12, .int .i64 (hcode x))]) {Q : AExit → Frame → Mem → Prop}
  (hQ : ∀ e fr' d2 a2 c2 wb2 wp2 g, (e = .normal ∨ e = .exit 1) → Has fr' [(0, sv b n cap ex), (1, .int .i64 (a2 : Nat)), (2, .int .i64 (c2 : Nat)), (3, .int .i64 (lim : Nat)), (8, .bool wb2), (9, .bool wp2)] → d2.size = n → a2 ≤ c2 → c2 ≤ n → c2 - a2 < c - a → Sort.pdq ltN d2 a2 c2 lim wb2 wp2 = T1 d a c lim wb wp p x → Q e fr' (at_ Mm r d2 ++ g))
  (hR : ∀ fr' d2, d2 = T1 d a c lim wb wp p x → d2.size = n → Q .ret fr' (at_ Mm r d2)) :
  W S slices_pdqsortOrdered_uint64_j1 fr (at_ Mm r d) Q := by
 have h' := PLift.up h
 have hQ' := PLift.up hQ
 have hR' := PLift.up hR
 have ih' := PLift.up ih
 clear h hQ hR ih
 by_cases hgo : (wb && wp && decide (x = .increasing)) = true
 ·obtain ⟨⟨rfl, rfl⟩, rfl⟩ : (wb = true ∧ wp = true) ∧ x = .increasing := by simpa using hgo
  have hx : hcode .increasing = 1 := rfl
  have hpz := PLift.up (@pi_size a c d)
  have t1 : PLift (T1 d a c lim true true p .increasing = if (Sort.partialInsertionSort ltN d a c).2 = true then (Sort.partialInsertionSort ltN d a c).1 else T0 (Sort.partialInsertionSort ltN d a c).1 a c lim true true p) := ⟨rfl⟩
  clear hgo
  refine into ?_
  refine (partial_spec h'.down hd (by omega) hc hn).mono ?_
  rintro _ _ ⟨rfl, rfl⟩
  cases hpi : (Sort.partialInsertionSort ltN d a c).2 with
  | true =>
   refine am ?_
   refine hR'.down _ _ ?_ (by rw [hpz.down]; exact hd)
   rw [t1.down, hpi]; rfl
  | false =>
   refine am ?_
   refine pdq_j0 (cap := cap) (ex := ex) (a := a) (c := c) (p := p) (lim := lim) (wb := true) (wp := true) h'.down (by rw [hpz.down]; exact hd) hac hc hp hn ih'.down byam ?_
   intro e fr' d2 a2 c2 wb2 wp2 g he F' hd2 h1 h2 h3 h4
   refine hQ'.down e fr' d2 a2 c2 wb2 wp2 g he F' hd2 h1 h2 h3 ?_
   rw [h4, t1.down, hpi]; rfl
 have t1 : PLift (T1 d a c lim wb wp p x = T0 d a c lim wb wp p) := ⟨by
  unfold T1
  rw [if_neg hgo]
  rfl⟩
 have fin : ∀ {fr' : Frame}, Has fr' [(0, sv b n cap ex), (1, .int .i64 (a : Nat)), (2, .int .i64 (c : Nat)), (3, .int .i64 (lim : Nat)), (8, .bool wb), (9, .bool wp), (10, .int .i64 ((c - a : Nat) : Nat)), (11, .int .i64 (p : Nat))] → W S slices_pdqsortOrdered_uint64_j0 fr' (at_ Mm r d) Q := by
  intro fr' F'
  refine pdq_j0 (cap := cap) (ex := ex) (a := a) (c := c) (p := p) (lim := lim) (wb := wb) (wp := wp) h'.down hd hac hc hp hn ih'.down F' ?_
  intro e fr' d2 a2 c2 wb2 wp2 g he F' hd2 h1 h2 h3 h4
  refine hQ'.down e fr' d2 a2 c2 wb2 wp2 g he F' hd2 h1 h2 h3 ?_
  rw [h4, t1.down]
 have fin' := PLift.up @fin
 clear fin
 cases wb with
 | false =>
  clear hgo
  refine into ?_
  exact fin'.down byam
 | true =>
  cases wp with
  | false =>
   clear hgo
   refine into ?_
   exact fin'.down byam
  | true =>
   have hx : (hcode x = 1) = False := eq_false (by
    intro e
    apply hgo
    cases x with
    | increasing => rfl
    | unknown => cases e
    | decreasing => cases e)
   clear hgo
   refine into ?_
   exact fin'.down byam
theorem pdq_j2 (h : Pl Mm b) {d : AN} (hd : d.size = n) {a c lim : Nat} {wb wp : Bool} (hac : a + 12 < c) (hc : c ≤ n) (hn : n < 100000000000000000) (ih : Ih b n cap ex r lim (c - a))
  {fr : Frame} (F : Has fr [(0, sv b n cap ex), (1, .int .i64 (a : Nat)), (2, .int .i64 (c : Nat)), (3, .int .i64 (lim : Nat)), (8, .bool wb), (9, .bool wp), (10, .int .i64 ((c - a : Nat) : Nat))]) {Q : AExit → Frame → Mem → Prop}
  (hQ : ∀ e fr' d2 a2 c2 wb2 wp2 g, (e = .normal ∨ e = .exit 1) → Has fr' [(0, sv b n cap ex), (1, .int .i64 (a2 : Nat)), (2, .int .i64 (c2 : Nat)), (3, .int .i64 (lim : Nat)), (8, .bool wb2), (9, .bool wp2)] → d2.size = n → a2 ≤ c2 → c2 ≤ n → c2 - a2 < c - a → Sort.pdq ltN d2 a2 c2 lim wb2 wp2 = T2 d a c lim wb wp → Q e fr' (at_ Mm r d2 ++ g))
  (hR : ∀ fr' d2 g, d2 = T2 d a c lim wb wp → d2.size = n → Q .ret fr' (at_ Mm r d2 ++ g)) :
  W S slices_pdqsortOrdered_uint64_j2 fr (at_ Mm r d) Q := by
 have h' := PLift.up h
 have hQ' := PLift.up hQ
 have hR' := PLift.up hR
 have ih' := PLift.up ih
 have cat := choose_at (d := d) (a := a) (c := c) (by omega)
 have t2 : PLift (T2 d a c lim wb wp = T1 (if (Sort.choosePivot ltN d a c).2 = .decreasing then Sort.reverseRange d a c else d) a c lim wb wp (if (Sort.choosePivot ltN d a c).2 = .decreasing then (c - 1) - ((Sort.choosePivot ltN d a c).1 - a) else (Sort.choosePivot ltN d a c).1) (if (Sort.choosePivot ltN d a c).2 = .decreasing then .increasing else (Sort.choosePivot ltN d a c).2)) := ⟨rfl⟩
 clear h hQ hR ih
 refine into ?_
 refine (choose_spec h'.down hd (by omega) hc hn).mono ?_
 rintro _ _ ⟨rfl, g, rfl⟩
 generalize hch : Sort.choosePivot ltN d a c = ch at cat t2
 obtain ⟨p, x⟩ := ch
 have cat : a ≤ p ∧ p < c := cat
 have t2 : PLift (T2 d a c lim wb wp = T1 (if x = .decreasing then Sort.reverseRange d a c else d) a c lim wb wp (if x = .decreasing then (c - 1) - (p - a) else p) (if x = .decreasing then .increasing else x)) := t2
 clear hch
 have hrz := PLift.up (@reverse_size a c d)
 by_cases hx : x = .decreasing
 ·subst hx
  have t3 : PLift (T2 d a c lim wb wp = T1 (Sort.reverseRange d a c) a c lim wb wp ((c - 1) - (p - a)) .increasing) := t2
  have hx : hcode .decreasing = 2 := rfl
  have hx1 : hcode .increasing = 1 := rfl
  have w1 : IntKind.i64.wrap ((c : Int) - 1) = ((c - 1 : Nat) : Int) := by rw [wrap_i64] <;> omega
  have w2 : IntKind.i64.wrap ((p : Int) - (a : Int)) = ((p - a : Nat) : Int) := by rw [wrap_i64] <;> omega
  have w3 : IntKind.i64.wrap (((c - 1 : Nat) : Int) - ((p - a : Nat) : Int)) = ((c - 1 - (p - a) : Nat) : Int) := by rw [wrap_i64] <;> omega
  clear t2
  refine am ?_
  refine (reverse_spec (Mm := fun X => Mm X ++ g) (h'.down.app g) hd (by omega) hc hn).mono ?_
  rintro _ _ ⟨rfl, rfl⟩
  refine am ?_
  refine pdq_j1 (Mm := fun X => Mm X ++ g) (cap := cap) (ex := ex) (d := Sort.reverseRange d a c) (a := a) (c := c) (p := c - 1 - (p - a)) (lim := lim) (wb := wb) (wp := wp) (x := .increasing) (h'.down.app g) (by rw [hrz.down]; exact hd) hac hc (by omega) hn ih'.down byam ?_ ?_
  ·intro e fr' d2 a2 c2 wb2 wp2 g2 he F' hd2 h1 h2 h3 h4
   have := hQ'.down e fr' d2 a2 c2 wb2 wp2 (g ++ g2) he F' hd2 h1 h2 h3 (by rw [h4, t3.down])
   rw [← List.append_assoc] at this
   exact this
  ·intro fr' d2 h1 h2
   exact hR'.down fr' d2 g (by rw [h1, t3.down]) h2
 ·have t3 : PLift (T2 d a c lim wb wp = T1 d a c lim wb wp p x) := ⟨by rw [t2.down, if_neg hx, if_neg hx, if_neg hx]⟩
  have hx2 : (hcode x = 2) = False := eq_false (by
   intro e
   cases x with
   | decreasing => exact hx rfl
   | unknown => cases e
   | increasing => cases e)
  clear t2 hx
  refine am ?_
  refine pdq_j1 (Mm := fun X => Mm X ++ g) (cap := cap) (ex := ex) (d := d) (a := a) (c := c) (p := p) (lim := lim) (wb := wb) (wp := wp) (x := x) (h'.down.app g) hd hac hc cat hn ih'.down byam ?_ ?_
  ·intro e fr' d2 a2 c2 wb2 wp2 g2 he F' hd2 h1 h2 h3 h4
   have := hQ'.down e fr' d2 a2 c2 wb2 wp2 (g ++ g2) he F' hd2 h1 h2 h3 (by rw [h4, t3.down])
   rw [← List.append_assoc] at this
   exact this
  ·intro fr' d2 h1 h2
   exact hR'.down fr' d2 g (by rw [h1, t3.down]) h2
end
end Go.AM.G
set_option maxRecDepth 100000
namespace Go.AM.G
open Go Go.AM
section
variable {b n cap : Nat} {ex : Bool} {r : List (List V)}
theorem pdq_spec (hn : n < 100000000000000000) : ∀ (k : Nat) (Mm : Blk → Mem) (d : AN) (a c lim : Nat), Pl Mm b → d.size = n → a ≤ c → c ≤ n → c - a ≤ k → lim < 1000 →
  C S n_slices_pdqsortOrdered_uint64 [sv b n cap ex, .int .i64 (a : Nat), .int .i64 (c : Nat), .int .i64 (lim : Nat)] (at_ Mm r d) (fun v m' => v = .tup [] ∧ ∃ g, m' = at_ Mm r (Sort.pdq ltN d a c lim true true) ++ g ∧ (Sort.pdq ltN d a c lim true true).size = n)
 | k, Mm, d, a, c, lim, h, hd, hac, hc, hk, hlim => by
  have h' := PLift.up h
  have ihk : PLift (∀ lim', lim' < 1000 → Ih b n cap ex r lim' k) := ⟨fun lim' hl Mm' d' a' c' g1 g2 g3 g4 g5 => by
   cases k with
   | zero => omega
   | succ k => exact pdq_spec hn k Mm' d' a' c' lim' g1 g2 g3 g4 (by omega) hl⟩
  clear h
  refine fn rfl ?_
  let I := fun (q : Nat) (fr : Frame) (m' : Mem) => ∃ (a' c' lim' : Nat) (wb wp : Bool) (d' : AN) (g : Mem), q = c' - a' ∧ a' ≤ c' ∧ c' ≤ n ∧ c' - a' ≤ k ∧ lim' < 1000 ∧ d'.size = n ∧ Sort.pdq ltN d' a' c' lim' wb wp = Sort.pdq ltN d a c lim true true ∧ Has fr [(0, sv b n cap ex), (1, .int .i64 (a' : Nat)), (2, .int .i64 (c' : Nat)), (3, .int .i64 (lim' : Nat)), (8, .bool wb), (9, .bool wp)] ∧ m' = at_ Mm r d' ++ g
  refine W_loop I ?_ (c - a) ⟨a, c, lim, true, true, d, [], rfl, hac, hc, hk, hlim, hd, rfl, byam, by simp⟩
  rintro q fr _ ⟨a', c', lim', wb, wp, d', g, rfl, hac', hc', hk', hlim', hd', hq, F, rfl⟩
  have hq' := PLift.up hq
  clear hq
  have eq := PLift.up (pdq_eq d' a' c' lim' wb wp)
  have w0 : IntKind.i64.wrap ((c' : Int) - (a' : Int)) = ((c' - a' : Nat) : Int) := by rw [wrap_i64] <;> omega
  have iz := PLift.up (@ins_size a' c' d')
  have hz := PLift.up (@heap_size a' c' d')
  have bz := PLift.up (@break_size a' c' d')
  by_cases h12 : c' - a' ≤ 12
  ·have c1 : (((c' - a' : Nat) : Int) ≤ 12) = True := eq_true (by omega)
   have t := PLift.up (hq'.down.symm.trans (eq.down.trans (if_pos h12)))
   clear eq
   refine into ?_
   refine (ins_spec (Mm := fun X => Mm X ++ g) (h'.down.app g) hd' hac' hc' hn).mono ?_
   rintro _ _ ⟨rfl, rfl⟩
   refine am ?_
   exact ⟨g, by rw [t.down], by rw [t.down, iz.down]; exact hd'⟩
  have c1 : (((c' - a' : Nat) : Int) ≤ 12) = False := eq_false (by omega)
  have eq2 := PLift.up (eq.down.trans (if_neg h12))
  clear eq
  by_cases hl0 : lim' = 0
  ·subst hl0
   have t := PLift.up (hq'.down.symm.trans (eq2.down.trans (if_pos rfl)))
   clear eq2
   refine into ?_
   refine (heap_spec (Mm := fun X => Mm X ++ g) (h'.down.app g) hd' (by omega) hc' hn).mono ?_
   rintro _ _ ⟨rfl, rfl⟩
   refine am ?_
   exact ⟨g, by rw [t.down], by rw [t.down, hz.down]; exact hd'⟩
  have c2 : ((lim' : Int) = 0) = False := eq_false (by omega)
  have t := PLift.up (hq'.down.symm.trans (eq2.down.trans (if_neg hl0)))
  have hl1 : 0 < lim' := by omega
  clear eq2 hl0
  cases wb with
  | true =>
   have t' : PLift (Sort.pdq ltN d a c lim true true = T2 d' a' c' lim' true wp) := t
   clear t
   refine into ?_
   refine pdq_j2 (Mm := fun X => Mm X ++ g) (cap := cap) (ex := ex) (d := d') (a := a') (c := c') (lim := lim') (wb := true) (wp := wp) (h'.down.app g) hd' (by omega) hc' hn (fun Mm' d2 a2 c2 g1 g2 g3 g4 g5 => ihk.down lim' hlim' Mm' d2 a2 c2 g1 g2 g3 g4 (by omega)) byam ?_ ?_
   ·intro e fr' d2 a2 c2 wb2 wp2 g2 he F' hd2 h1 h2 h3 h4
    have fin : ∃ q, q < c' - a' ∧ I q fr' (at_ Mm r d2 ++ (g ++ g2)) := ⟨c2 - a2, h3, a2, c2, lim', wb2, wp2, d2, g ++ g2, rfl, h1, h2, by omega, hlim', hd2, by rw [h4, t'.down], F', rfl⟩
    have fin' := PLift.up fin
    clear fin
    rcases he with rfl | rfl
    ·refine am ?_
     exact fin'.down
    ·refine am ?_
     exact fin'.down
   ·intro fr' d2 g2 h1 h2
    refine am ?_
    exact ⟨g ++ g2, by rw [t'.down, ← h1], by rw [t'.down, ← h1]; exact h2⟩
  | false =>
   have t' : PLift (Sort.pdq ltN d a c lim true true = T2 (Sort.breakPatterns d' a' c') a' c' (lim' - 1) false wp) := t
   have w1 : IntKind.i64.wrap ((lim' : Int) - 1) = ((lim' - 1 : Nat) : Int) := by rw [wrap_i64] <;> omega
   clear t
   refine into ?_
   refine (break_spec (Mm := fun X => Mm X ++ g) (h'.down.app g) hd' (by omega) hc' hn).mono ?_
   rintro _ _ ⟨rfl, g0, rfl⟩
   refine am ?_
   have e0 : Mm (.cells true (rowA (Sort.breakPatterns d' a' c') r)) ++ (g ++ g0) = (fun X => Mm X ++ (g ++ g0)) (.cells true (rowA (Sort.breakPatterns d' a' c') r)) := rfl
   refine pdq_j2 (Mm := fun X => Mm X ++ (g ++ g0)) (cap := cap) (ex := ex) (d := Sort.breakPatterns d' a' c') (a := a') (c := c') (lim := lim' - 1) (wb := false) (wp := wp) (h'.down.app (g ++ g0)) (by rw [bz.down]; exact hd') (by omega) hc' hn (fun Mm' d2 a2 c2 g1 g2 g3 g4 g5 => ihk.down (lim' - 1) (by omega) Mm' d2 a2 c2 g1 g2 g3 g4 (by omega)) byam ?_ ?_
   ·intro e fr' d2 a2 c2 wb2 wp2 g2 he F' hd2 h1 h2 h3 h4
    have fin : ∃ q, q < c' - a' ∧ I q fr' (at_ Mm r d2 ++ (g ++ (g0 ++ g2))) := ⟨c2 - a2, h3, a2, c2, lim' - 1, wb2, wp2, d2, g ++ (g0 ++ g2), rfl, h1, h2, by omega, by omega, hd2, by rw [h4, t'.down], F', rfl⟩
    have fin' := PLift.up fin
    clear fin
    rcases he with rfl | rfl
    ·refine am ?_
     exact fin'.down
    ·refine am ?_
     exact fin'.down
   ·intro fr' d2 g2 h1 h2
    refine am ?_
    exact ⟨g ++ (g0 ++ g2), by rw [t'.down, ← h1], by rw [t'.down, ← h1]; exact h2⟩
theorem swoN : Sort.SWO ltN where
 irrefl x := by simp [ltN]
 trans x y z h1 h2 := by simp [ltN] at *; omega
 ntrans x y z h1 h2 := by simp [ltN] at *; omega
def srtN (l : List Nat) : List Nat := l.mergeSort fun x y => decide (x ≤ y)
theorem sort_is (d : AN) (lim : Nat) : (Sort.pdq ltN d 0 d.size lim true true).toList = srtN d.toList := by
 obtain ⟨h1, h2⟩ := Sort.pdq_sorts ltN swoN d 0 d.size lim true true (Nat.zero_le _) (Nat.le_refl _) (Or.inl rfl)
 have := Sort.sorted_unique_holds swoN (fun x y h1 h2 => by simp [ltN] at h1 h2; omega) d _ h1 h2
 rw [this]
 unfold srtN
 congr 1
 funext x y
 by_cases h : x ≤ y
 ·simp [ltN, h, Nat.not_lt.2 h]
 ·simp [ltN, h, Nat.lt_of_not_le h]
theorem SortW_spec {Mm : Blk → Mem} (h : Pl Mm b) {d : AN} (hd : d.size = n) (hn : n < 100000000000000000) :
  C S n_slices_Sort_uint64 [sv b n cap ex] (at_ Mm r d) (fun v m' => v = .tup [] ∧ ∃ g, m' = at_ Mm r (srtN d.toList).toArray ++ g) := by
 have h' := PLift.up h
 clear h
 have w1 : IntKind.u64.wrap (n : Int) = (n : Int) := un' (by omega)
 have hb : Lib.bitLen n < 1000 := by
  rw [bitLen_eq n (by omega)]
  exact Nat.lt_of_le_of_lt (bitsLen_lt (k := 57) (by omega)) (by decide)
 have si := PLift.up (sort_is d (Lib.bitLen n))
 refine fn rfl ?_
 refine (Len_spec (n := n) (by omega)).mono ?_
 rintro _ _ ⟨rfl, rfl⟩
 refine am ?_
 refine (pdq_spec (cap := cap) (ex := ex) hn n Mm d 0 n (Lib.bitLen n) h'.down hd (Nat.zero_le _) (Nat.le_refl _) (by omega) hb).mono ?_
 rintro _ _ ⟨rfl, g, rfl, hz⟩
 refine am ?_
 refine ⟨g, ?_⟩
 have := si.down
 rw [hd] at this
 rw [← this]
end
end Go.AM.G
