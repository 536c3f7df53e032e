/- Part of the proof: contracts of functions of the given program on an abstract machine. -/
import Derived.Test.YtnpefpiggklimaaGraphC
set_option linter.unusedVariables false
set_option linter.unusedSimpArgs false
set_option maxRecDepth 100000
namespace Go.AM.G
open Go Go.AM
/-- where a node leads. -/
def toN (N : List NodeA) (p : Nat) : List Nat := ((N[p]?).map fun x => x.to.map Int.toNat).getD []
theorem rises_ok : ∀ (l : List Int) (n last : Int), -1 ≤ last → risesB n last l = true → (∀ x ∈ l, last < x ∧ x < n) ∧ l.Pairwise (· < ·)
  | [], _, _, _, _ => ⟨by simp, List.Pairwise.nil⟩
  | a :: l, n, last, h0, h => by
    simp only [risesB, Bool.and_eq_true, decide_eq_true_eq] at h
    obtain ⟨h1, h2⟩ := rises_ok l n a (by omega) h.2
    refine ⟨fun x hx => ?_, List.pairwise_cons.2 ⟨fun x hx => (h1 x hx).1, h2⟩⟩
    rcases List.mem_cons.1 hx with rfl | hx
    · exact h.1
    · have := h1 x hx; omega
theorem nodes_ok : ∀ (l : List NodeA) (n last : Int), nodesB n last l = true → ∀ x ∈ l, risesB n (-1) x.to = true ∧ 1 ≤ x.words ∧ x.words ≤ 49 ∧ last < x.addr
  | [], _, _, _ => by simp
  | a :: l, n, last, h => by
    simp only [nodesB, Bool.and_eq_true, decide_eq_true_eq] at h
    intro x hx
    rcases List.mem_cons.1 hx with rfl | hx
    · exact ⟨h.2.2.1, h.2.1.1, h.2.1.2, h.1⟩
    · obtain ⟨a1, a2, a3, a4⟩ := nodes_ok l n a.addr h.2.2.2 x hx
      exact ⟨a1, a2, a3, by omega⟩
theorem ints_toNat {l : List Int} {n : Int} (h : ∀ x ∈ l, -1 < x ∧ x < n) : l = ints' (l.map Int.toNat) := by
  have e : ints' (l.map Int.toNat) = l.map fun x => ((x.toNat : Nat) : Int) := by simp [Function.comp_def]
  rw [e]
  conv => lhs; rw [← List.map_id l]
  refine List.map_congr_left fun x hx => ?_
  have := h x hx
  simp only [id]
  omega
theorem valid_to {N : List NodeA} {R : List Int} (h : validG N R = true) : N.length ≤ 4096 ∧ (∀ (p : Nat) (x : NodeA), N[p]? = some x → x.to = ints' (toN N p)) ∧ (∀ p q, q ∈ toN N p → q < N.length) ∧ R = ints' (R.map Int.toNat) ∧ (∀ q ∈ R.map Int.toNat, q < N.length) ∧ ∀ p, (toN N p).Pairwise (· < ·) := by
  simp only [validG, Bool.and_eq_true, decide_eq_true_eq] at h
  obtain ⟨h1, h2, h3⟩ := h
  have hx : ∀ (p : Nat) (x : NodeA), N[p]? = some x → (∀ y ∈ x.to, -1 < y ∧ y < N.length) ∧ x.to.Pairwise (· < ·) := fun p x hp => rises_ok _ _ _ (by omega) (nodes_ok N _ _ h3 x (List.mem_of_getElem? hp)).1
  have hR := rises_ok _ _ _ (by omega) h2
  refine ⟨h1, fun p x hp => ?_, fun p q hq => ?_, ints_toNat hR.1, fun q hq => ?_, fun p => ?_⟩
  · have : toN N p = x.to.map Int.toNat := by simp [toN, hp]
    rw [this]; exact ints_toNat (hx p x hp).1
  · unfold toN at hq
    cases hp : N[p]? with
    | none => rw [hp] at hq; simp at hq
    | some x =>
      rw [hp] at hq
      obtain ⟨y, hy, rfl⟩ := List.mem_map.1 (show q ∈ x.to.map Int.toNat from hq)
      have := (hx p x hp).1 y hy; omega
  · obtain ⟨y, hy, rfl⟩ := List.mem_map.1 hq
    have := hR.1 y hy; omega
  · unfold toN
    cases hp : N[p]? with
    | none => simp
    | some x =>
      show (x.to.map Int.toNat).Pairwise _
      rw [List.pairwise_map]
      refine (hx p x hp).2.imp_of_mem fun {a b} ha hb hab => ?_
      have := (hx p x hp).1 a ha; have := (hx p x hp).1 b hb; omega
def encC (l : List (Nat × Nat)) : List (List V) := l.reverse.map fun c => [V.int .i64 (c.1 : Int), V.int .i64 (c.2 : Int)]
theorem encC_cons {c : Nat × Nat} {l : List (Nat × Nat)} : encC (c :: l) = encC l ++ [[V.int .i64 (c.1 : Int), V.int .i64 (c.2 : Int)]] := by simp [encC]
theorem encC_len {l : List (Nat × Nat)} : (encC l).length = l.length := by simp [encC]
theorem encC_top {c : Nat × Nat} {l : List (Nat × Nat)} : (encC (c :: l))[l.length]? = some [V.int .i64 (c.1 : Int), V.int .i64 (c.2 : Int)] := by
  rw [encC_cons, List.getElem?_append_right (by rw [encC_len]; exact Nat.le_refl _), encC_len]
  simp
/-- a place of a growing slice is written. -/
theorem GS.store {B z n i j : Nat} {M : Mem} {u x : V} {L : List (List V)} {el : List V} (h : GS B M u z L) (hi : L[i]? = some el) (hl : j + n ≤ el.length) (hx : x.cells.length = n) (hc : x.cells.all V.isCell = true) :
    ∃ M' b y, blkOf u = some b ∧ M' = M.set b y ∧ storeV M n (atp u i j) x = some M' ∧ GS B M' u z (L.set i (splice el j x.cells)) := by
  rcases h with ⟨rfl, rfl⟩ | ⟨b, ex, els, h1, rfl, h3, h4⟩
  · simp at hi
  · have hlt := (List.getElem?_eq_some_iff.1 hi).1
    have hi2 : els[i]? = some el := by
      have h5 : (els.take L.length)[i]? = some el := by rw [h4]; exact hi
      rw [List.getElem?_take, if_pos hlt] at h5
      exact h5
    have hbl := (List.getElem?_eq_some_iff.1 h3).1
    refine ⟨_, b, _, rfl, rfl, store_own1 h3 hi2 hl hx hc, .inr ⟨b, ex, els.set i (splice el j x.cells), h1, by simp, List.getElem?_set_self hbl, ?_⟩⟩
    rw [List.length_set, List.take_set, h4]
/-- Tarjan's state, with its calls. -/
structure TC (m : Mem) (B : Nat) (M : Mem) (nv rv : V) (n : Nat) (s : TS) (sv cv : V) : Prop where
  tm : TM B M nv rv n s sv
  gs : GS (B + 6) M cv 2 (encC s.calls)
  ap : ∀ c, blkOf cv = some c → blkOf sv ≠ some c
  gr : Grow m M
theorem Grow.keep' {m0 M M' : Mem} (hg : Grow m0 M) (h : ∀ (c : Nat) y, c < m0.length → M[c]? = some y → M'[c]? = some y) : Grow m0 M' := by
  refine ⟨M'.drop m0.length, ?_⟩
  have : M'.take m0.length = m0 := by
    apply List.ext_getElem?
    intro i
    by_cases hi : i < m0.length
    · rw [List.getElem?_take, if_pos hi]
      have h0 := List.getElem?_eq_getElem hi
      rw [h0]
      exact h i _ hi (hg.get h0)
    · rw [List.getElem?_eq_none (by simp; omega), List.getElem?_eq_none (by omega)]
  conv => lhs; rw [← List.take_append_drop m0.length M', this]
theorem nodup_le : ∀ (n : Nat) (l : List Nat), l.Nodup → (∀ x ∈ l, x < n) → l.length ≤ n
  | 0, l, _, h => by
    cases l with
    | nil => simp
    | cons a l => have := h a (by simp); omega
  | n + 1, l, hn, h => by
    by_cases hm : n ∈ l
    · have h1 := nodup_le n (l.erase n) (hn.erase n) (fun x hx => by
        have h2 := (hn.mem_erase_iff).1 hx
        have := h x h2.2
        omega)
      rw [List.length_erase_of_mem hm] at h1
      omega
    · have := nodup_le n l hn (fun x hx => by
        have h2 := h x hx
        have : x ≠ n := fun e => hm (e ▸ hx)
        omega)
      omega
theorem Inv.stack_le {to : Nat → List Nat} {n : Nat} {s : TS} (h : Inv to n s) : s.stack.Nodup ∧ s.stack.length ≤ n := by
  have hn : s.stack.Nodup := h.sorted.imp fun {a b} hab e => by rw [e] at hab; omega
  exact ⟨hn, nodup_le n _ hn fun x hx => h.bnd x (h.seen x hx)⟩
theorem Inv.calls_le {to : Nat → List Nat} {n : Nat} {s : TS} (h : Inv to n s) : s.calls.length ≤ n := by
  have hn : (s.calls.map (·.1)).Nodup := by
    unfold List.Nodup
    rw [List.pairwise_map]
    exact h.gsort.imp fun {a b} hab e => by rw [e] at hab; omega
  have := nodup_le n _ hn fun x hx => by
    obtain ⟨c, hc, rfl⟩ := List.mem_map.1 hx
    exact h.bnd _ (h.seen _ (h.gray c hc))
  simpa using this
/-- how many nodes are not seen. -/
def un (n : Nat) (s : TS) : Nat := ((List.range n).map fun p => if s.ix p = 0 then 1 else 0).sum
theorem un_enter {n : Nat} {s : TS} {q : Nat} (hq : q < n) (h0 : s.ix q = 0) (s' : TS) (e : s'.ix = upd s.ix q (s.next + 1)) : un n s' + 1 = un n s := by
  have hs := sum_upd (f := fun p => if s.ix p = 0 then 1 else 0) (g := fun p => if upd s.ix q (s.next + 1) p = 0 then 1 else 0) (q := q) (List.range n) List.nodup_range (by simpa using hq) (fun x _ hx => by simp only [upd_ne hx])
  simp only [upd_self, h0, if_true] at hs
  rw [if_neg (by omega)] at hs
  unfold un
  rw [e]
  omega
theorem TM.congr {B n : Nat} {M : Mem} {nv rv sv : V} {s s' : TS} (h : TM B M nv rv n s sv) (e1 : s'.ix = s.ix) (e2 : s'.low = s.low) (e3 : s'.on = s.on) (e4 : s'.parts = s.parts) (e5 : s'.stack = s.stack) (e6 : s'.next = s.next) : TM B M nv rv n s' sv :=
  ⟨by rw [e6]; exact h.T, h.N, by rw [e1]; exact h.I, by rw [e2]; exact h.L, by rw [e3]; exact h.O, by rw [e4]; exact h.P, by rw [e5]; exact h.St⟩
/-- a node is left: the whole of it. -/
def popT (s : TS) (c : Nat) (rest : List (Nat × Nat)) (A D : List Nat) (least : Nat) : TS := if s.low c = s.ix c then popPart s c rest A (c :: D) least else popKeep s c rest
theorem popT_inv {to : Nat → List Nat} {n : Nat} {s : TS} (h : Inv to n s) {c i least : Nat} {rest : List (Nat × Nat)} {A D : List Nat} (hc : s.calls = (c, i) :: rest) (hi : i = (to c).length) (hst : s.stack = A ++ c :: D) (hl1 : least ∈ c :: D) (hl2 : ∀ q, q ∈ c :: D → least ≤ q) : Inv to n (popT s c rest A D least) ∧ (popT s c rest A D least).calls = rest ∧ (popT s c rest A D least).ix = s.ix ∧ (popT s c rest A D least).next = s.next := by
  unfold popT
  split
  · rename_i hlow
    exact ⟨inv_popPart h hc hi hlow hst hl1 hl2, rfl, rfl, rfl⟩
  · rename_i hlow
    obtain ⟨_, _, _, _, h1⟩ := inv_popKeep h hc hi hlow
    exact ⟨h1, rfl, rfl, rfl⟩
theorem popT_tm {B n : Nat} {M : Mem} {nv rv sv : V} {s : TS} {c least : Nat} {rest : List (Nat × Nat)} {A D : List Nat} (h : TM B M nv rv n { leaveT s c A D least with low := lowUp s.low c rest } sv) : TM B M nv rv n (popT s c rest A D least) sv := by
  unfold popT
  unfold leaveT at h
  split
  · rename_i hlow
    rw [if_pos hlow] at h
    exact h.congr rfl rfl rfl rfl rfl rfl
  · rename_i hlow
    rw [if_neg hlow] at h
    exact h.congr rfl rfl rfl rfl rfl rfl
theorem leaveT_low {s : TS} {c least : Nat} {A D : List Nat} : (leaveT s c A D least).low = s.low := by unfold leaveT; split <;> rfl
theorem visit_loop {m M0 : Mem} {B : Nat} {nv rv : V} {N : List NodeA} {R : List Int} {s0 : TS} {sv0 cv0 : V} {fr0 : Frame} {Q : AExit → Frame → Mem → Prop} (hm : m.length ≤ B) (hG : Gr m nv rv N R) (hf : Fits N R) (hval : validG N R = true) (f0 : fr0 0 = .ptr (B + 5) 0 0) (f4 : fr0 4 = cv0) (hTC : TC m B M0 nv rv N.length s0 sv0 cv0) (hI : Inv (toN N) N.length s0) (hun : s0.next + un N.length s0 ≤ N.length)
    (hQ : ∀ fr M s sv, TM B M nv rv N.length s sv → Inv (toN N) N.length s → s.calls = [] → (∀ p, s0.ix p ≠ 0 → s.ix p ≠ 0) → s.next + un N.length s ≤ N.length → Grow m M → Q .normal fr M) :
    W S (.block 0 (.loop graph_tarjan_visit_l0)) fr0 M0 Q := by
  obtain ⟨hn, hto, hlt, _, _, _⟩ := valid_to hval
  generalize hnn : N.length = n at *
  simp (maxDischargeDepth := 30) only [amL, args0, Nat.reduceEqDiff, reduceCtorEq, ↓reduceIte, Nat.reduceAdd, resultsA, results1, Int.reduceNeg, splice, Nat.reduceLeDiff, part, fillA, fillE, Nat.reduceLT]
  let I := fun (k : Nat) (fr : Frame) (M : Mem) => ∃ s sv cv, k = mu (toN N) n s ∧ fr 0 = .ptr (B + 5) 0 0 ∧ fr 4 = cv ∧ TC m B M nv rv n s sv cv ∧ Inv (toN N) n s ∧ (∀ p, s0.ix p ≠ 0 → s.ix p ≠ 0) ∧ s.next + un n s ≤ n
  refine W_loop I ?_ (mu (toN N) n s0) ⟨s0, sv0, cv0, rfl, f0, f4, hTC, hI, fun _ h => h, hun⟩
  rintro k fr M ⟨s, sv, cv, rfl, f0, f4, hTC, hI, hmono, hun⟩
  unfold graph_tarjan_visit_l0
  have hcl := hTC.gs.sl.len
  rw [encC_len] at hcl
  cases hcs : s.calls with
  | nil =>
    rw [hcs, List.length_nil] at hcl
    have c0 : ¬ (0 : Int) < ((0 : Nat) : Int) := by simp
    simp (maxDischargeDepth := 30) only [f0, f4, hcl, c0, amL, args0, Nat.reduceEqDiff, reduceCtorEq, ↓reduceIte, Nat.reduceAdd, resultsA, results1, Int.reduceNeg, splice, Nat.reduceLeDiff, part, fillA, fillE, Nat.reduceLT]
    exact hQ _ _ s sv hTC.tm hI hcs hmono hun hTC.gr
  | cons top rest =>
    obtain ⟨c, i⟩ := top
    rw [hcs, List.length_cons] at hcl
    have hgs := hTC.gs
    rw [hcs] at hgs
    have c0 : (0 : Int) < ((rest.length + 1 : Nat) : Int) := by omega
    have hrl : rest.length + 1 ≤ n := by have := hI.calls_le; rw [hcs] at this; exact this
    have w0 : IntKind.i64.wrap (((rest.length + 1 : Nat) : Int) - 1) = (rest.length : Int) := by rw [wrap_i64] <;> omega
    have ixc := hgs.sl.index (ki := .i64) (n := rest.length) (by omega) (by rw [encC_len]; simp; omega)
    have ldc := fun o k => hgs.sl.load (o := o) (k := k) (encC_top (c := (c, i)) (l := rest))
    simp only [Int.toNat_natCast] at ixc
    have ldT := fun j k => load_at0 (k := k) (j := j) hTC.tm.T
    have ldN := fun j k => load_at0 (k := k) (j := j) hTC.tm.N
    have hcn : c < n := hI.bnd c (hI.seen c (hI.gray (c, i) (by rw [hcs]; simp)))
    obtain ⟨nd, hnd⟩ : ∃ nd, N[c]? = some nd := ⟨_, List.getElem?_eq_getElem (by omega)⟩
    obtain ⟨_, els, hne, hel, hnds⟩ := hG.grow hTC.gr
    obtain ⟨tv, hte, htv⟩ := hnds c nd hnd
    rw [hto c nd hnd] at htv
    have ixn := hne.index (ki := .i64) (n := c) (by omega) (by omega)
    have ldn := fun o k => hne.load (o := o) (k := k) hte
    simp only [Int.toNat_natCast] at ixn
    have hcellp : ∀ o, asPtr 0 (atp cv rest.length o) = some (atp cv rest.length o) := fun o => by rw [asPtr_atp]; rfl
    have r0 : List.replicate 0 Blk.dead = [] := rfl
    have htl := htv.len
    have htl2 : (i64s (ints' (toN N c))).length = (toN N c).length := by simp
    rw [htl2] at htl
    obtain ⟨hil, hseen⟩ := hI.edge (c, i) (by rw [hcs]; simp)
    have hil : i ≤ (toN N c).length := hil
    by_cases hdone : i = (toN N c).length
    · have hdone' : ((i : Int) = ((toN N c).length : Int)) = True := eq_true (by omega)
      simp (maxDischargeDepth := 30) only [f0, f4, hcl, c0, w0, ixc, ldc, ldT, ldN, r0, List.append_nil, hcellp, ixn, ldn, htl, hdone', amL, args0, Nat.reduceEqDiff, reduceCtorEq, ↓reduceIte, Nat.reduceAdd, resultsA, results1, Int.reduceNeg, splice, Nat.reduceLeDiff, part, fillA, fillE, Nat.reduceLT]
      obtain ⟨A, D, hst, hcA⟩ := top_split hI hcs
      obtain ⟨hsnd, hsl⟩ := hI.stack_le
      refine (leave_spec hTC.tm hcn hn hst hcA (fun q hq => hI.bnd q (hI.seen q hq)) hsl).mono ?_
      rintro _ M1 ⟨sv1, least, hl1, hl2, h1, hsb, hka, hM1⟩
      have hgs1 : GS (B + 6) M1 cv 2 (encC ((c, i) :: rest)) := hgs.keep fun x y hx hy => hka x y (.inr (hgs.blk hx).1) hy
      have hg1 : Grow m M1 := Grow.keep' hTC.gr fun x y hx hy => hka x y (.inl (by omega)) hy
      obtain ⟨cv1, hc1, hc2, hc3⟩ := hgs1.cut (k := rest.length) (by rw [encC_len]; simp)
      have htk : (encC ((c, i) :: rest)).take rest.length = encC rest := by rw [encC_cons, List.take_left' encC_len]
      rw [htk] at hc2
      have hzc : zOk cv 2 = true := hgs1.sl.2
      have hcl1 : asLen cv1 = some (.int .i64 (rest.length : Nat)) := by rw [hc2.sl.len, encC_len]
      have hap : ∀ x, blkOf cv1 = some x → blkOf sv1 ≠ some x := fun x hx => by rw [hsb]; exact hTC.ap x (by rw [← hc3]; exact hx)
      obtain ⟨p1, p2, p3, p4⟩ := popT_inv hI hcs hdone hst hl1 hl2
      have fin : ∀ (fr' : Frame) (M' : Mem), fr' 0 = .ptr (B + 5) 0 0 → fr' 4 = cv1 → TC m B M' nv rv n (popT s c rest A D least) sv1 cv1 → ∃ j, j < mu (toN N) n s ∧ I j fr' M' := fun fr' M' g0 g4 hTC' => ⟨_, mu_pop hcs (popT s c rest A D least) p2 p3, _, sv1, cv1, rfl, g0, g4, hTC', p1, by rw [p3]; exact hmono, by unfold un; rw [p3, p4]; exact hun⟩
      cases hrest : rest with
      | nil =>
        rw [hrest] at hcl1 hcl w0 hc1 hc2 fin
        have cz : ¬ (0 : Int) < ((([] : List (Nat × Nat)).length : Nat) : Int) := by simp
        have w00 : IntKind.i64.wrap (((0 + 1 : Nat) : Int) - 1) = ((([] : List (Nat × Nat)).length : Nat) : Int) := w0
        simp only [List.length_nil] at hcl1 cz hc1 w00 hcl
        simp (maxDischargeDepth := 30) only [aft_mk, f0, f4, hcl, w00, Option.map_none, hzc, hc1, hcl1, cz, amL, args0, Nat.reduceEqDiff, reduceCtorEq, ↓reduceIte, Nat.reduceAdd, resultsA, results1, Int.reduceNeg, splice, Nat.reduceLeDiff, part, fillA, fillE, Nat.reduceLT]
        refine fin _ _ (by simp (maxDischargeDepth := 30) only [f0, amL, args0, Nat.reduceEqDiff, reduceCtorEq, ↓reduceIte, Nat.reduceAdd, resultsA, results1, Int.reduceNeg, splice, Nat.reduceLeDiff, part, fillA, fillE, Nat.reduceLT]) (by simp (maxDischargeDepth := 30) only [amL, args0, Nat.reduceEqDiff, reduceCtorEq, ↓reduceIte, Nat.reduceAdd, resultsA, results1, Int.reduceNeg, splice, Nat.reduceLeDiff, part, fillA, fillE, Nat.reduceLT]) ⟨popT_tm ?_, ?_, hap, hg1⟩
        · refine h1.congr rfl ?_ rfl rfl rfl rfl
          rw [leaveT_low]; rfl
        · have e : (popT s c [] A D least).calls = [] := by rw [hrest] at p2; exact p2
          rw [e]; exact hc2
      | cons ub rest' =>
        obtain ⟨u, j⟩ := ub
        rw [hrest, List.length_cons] at hcl1 hc1
        rw [hrest, List.length_cons] at w0 hcl
        rw [hrest] at hc2 fin p2 hcs
        have cz : (0 : Int) < ((rest'.length + 1 : Nat) : Int) := by omega
        have wz : IntKind.i64.wrap (((rest'.length + 1 : Nat) : Int) - 1) = (rest'.length : Int) := by rw [hrest, List.length_cons] at hrl; rw [wrap_i64] <;> omega
        have hun1 : u < n := hI.bnd u (hI.seen u (hI.gray (u, j) (by rw [hcs]; simp)))
        have ixu := hc2.sl.index (ki := .i64) (n := rest'.length) (by omega) (by rw [encC_len]; simp; omega)
        have ldu := fun o k => hc2.sl.load (o := o) (k := k) (encC_top (c := (u, j)) (l := rest'))
        have ldT1 := fun j k => load_at0 (k := k) (j := j) h1.T
        have ixL := h1.slL.index (ki := .i64) (n := u) (by omega) (by rw [natF_len]; omega)
        have ldL := fun o k => h1.slL.load (o := o) (k := k) (natF_get hun1)
        have ixLc := h1.slL.index (ki := .i64) (n := c) (by omega) (by rw [natF_len]; omega)
        have ldLc := fun o k => h1.slL.load (o := o) (k := k) (natF_get hcn)
        rw [leaveT_low] at ldL ldLc
        have hmn : (if ((s.low c : Nat) : Int) < (s.low u : Nat) then ((s.low c : Nat) : Int) else (s.low u : Nat)) = ((min (s.low u) (s.low c) : Nat) : Int) := by split <;> omega
        have stL := store_own (n := 1) (len := n) (cap := n) (z := 1) (ex := true) (x := .int .i64 ((min (s.low u) (s.low c) : Nat) : Int)) h1.L (natF_get hun1) rfl rfl rfl
        simp only [Int.toNat_natCast, V.cells, natF_set, leaveT_low] at ixu ixL ixLc stL
        have h2 := h1.setL (f := lowUp s.low c ((u, j) :: rest'))
        have e2 : lowUp s.low c ((u, j) :: rest') = upd s.low u (min (s.low u) (s.low c)) := rfl
        simp (maxDischargeDepth := 30) only [aft_mk, f0, f4, hcl, w0, Option.map_none, hzc, hc1, hcl1, cz, wz, ixu, ldu, ldT1, ixL, ldL, ixLc, ldLc, hmn, stL, r0, List.append_nil, amL, args0, Nat.reduceEqDiff, reduceCtorEq, ↓reduceIte, Nat.reduceAdd, resultsA, results1, Int.reduceNeg, splice, Nat.reduceLeDiff, part, fillA, fillE, Nat.reduceLT]
        refine fin _ _ (by simp (maxDischargeDepth := 30) only [f0, amL, args0, Nat.reduceEqDiff, reduceCtorEq, ↓reduceIte, Nat.reduceAdd, resultsA, results1, Int.reduceNeg, splice, Nat.reduceLeDiff, part, fillA, fillE, Nat.reduceLT]) (by simp (maxDischargeDepth := 30) only [amL, args0, Nat.reduceEqDiff, reduceCtorEq, ↓reduceIte, Nat.reduceAdd, resultsA, results1, Int.reduceNeg, splice, Nat.reduceLeDiff, part, fillA, fillE, Nat.reduceLT]) ⟨popT_tm ?_, ?_, hap, ?_⟩
        · rw [← e2]; exact h2
        · have e : (popT s c ((u, j) :: rest') A D least).calls = (u, j) :: rest' := p2
          rw [e]
          exact hc2.keep fun x y hx hy => set_get (by have := (hc2.blk hx).1; omega) hy
        · exact hg1.set (by omega) _
    · have hdone' : ¬ (i : Int) = ((toN N c).length : Int) := by omega
      obtain ⟨q, hq⟩ : ∃ q, (toN N c)[i]? = some q := ⟨_, List.getElem?_eq_getElem (by omega)⟩
      have hqn : q < n := hlt c q (List.mem_of_getElem? hq)
      have ixt := htv.index (ki := .i64) (n := i) (by omega) (by rw [htl2]; omega)
      have ldt := fun o k => htv.load (o := o) (k := k) (i := i) (el := [.int .i64 (q : Int)]) (by simp [hq])
      have hfit : (toN N c).length < 2 ^ 60 := by
        have h1 := hf.2.2 nd (List.mem_of_getElem? hnd)
        rw [hto c nd hnd] at h1
        simpa using h1
      have w1 : IntKind.i64.wrap ((i : Int) + 1) = ((i + 1 : Nat) : Int) := by rw [wrap_i64] <;> omega
      obtain ⟨M1, b1, y1, hb1, hM1, st1, hgs1⟩ := hgs.store (n := 1) (j := 1) (x := .int .i64 ((i + 1 : Nat) : Int)) (encC_top (c := (c, i)) (l := rest)) (by simp) rfl rfl
      have e1 : (encC ((c, i) :: rest)).set rest.length (splice [V.int .i64 (c : Int), V.int .i64 (i : Int)] 1 (V.int .i64 ((i + 1 : Nat) : Int)).cells) = encC ((c, i + 1) :: rest) := by
        rw [encC_cons, encC_cons, List.set_append_right _ _ (by rw [encC_len]; exact Nat.le_refl _), encC_len, Nat.sub_self]
        rfl
      rw [e1] at hgs1
      have hne1 := hTC.ap b1 hb1
      have hbB := (hgs.blk hb1).1
      have h1 : TM B M1 nv rv n s sv := by rw [hM1]; exact hTC.tm.other hbB hne1
      have hg1 : Grow m M1 := by rw [hM1]; exact hTC.gr.set (by omega) _
      have hM1l : M1.length = M.length := by rw [hM1]; simp
      have ldT1 := fun j k => load_at0 (k := k) (j := j) h1.T
      have ixI := h1.slI.index (ki := .i64) (n := q) (by omega) (by rw [natF_len]; omega)
      have ldI := fun o k => h1.slI.load (o := o) (k := k) (natF_get hqn)
      simp only [Int.toNat_natCast] at ixt ixI
      obtain ⟨hsnd, hsl⟩ := hI.stack_le
      by_cases h0 : s.ix q = 0
      · have h0' : (((s.ix q : Nat) : Int) = 0) = True := eq_true (by omega)
        have hqs : q ∉ s.stack := fun hm => hI.seen q hm h0
        have hsl2 : s.stack.length < n := by
          have := nodup_le n (q :: s.stack) (List.nodup_cons.2 ⟨hqs, hsnd⟩) (fun x hx => by
            rcases List.mem_cons.1 hx with rfl | hx
            · exact hqn
            · exact hI.bnd x (hI.seen x hx))
          rw [List.length_cons] at this
          omega
        have hue := un_enter hqn h0 (enterT (nextEdge s c i rest) q) rfl
        have hnext : s.next < n := by omega
        simp (maxDischargeDepth := 30) only [f0, f4, hcl, c0, w0, ixc, ldc, ldT, ldN, r0, List.append_nil, hcellp, ixn, ldn, htl, hdone', ixt, ldt, w1, st1, ldT1, ixI, ldI, h0', amL, args0, Nat.reduceEqDiff, reduceCtorEq, ↓reduceIte, Nat.reduceAdd, resultsA, results1, Int.reduceNeg, splice, Nat.reduceLeDiff, part, fillA, fillE, Nat.reduceLT]
        refine (enter_spec h1 hqn hn hnext hsl2).mono ?_
        rintro _ M2 ⟨rfl, sv2, h2, hb2, hk2, hlen2⟩
        have hgs2 : GS (B + 6) M2 cv 2 (encC ((c, i + 1) :: rest)) := hgs1.keep fun x y hx hy => hk2 x y (.inr ⟨(hgs1.blk hx).1, hTC.ap x hx⟩) hy
        have hg2 : Grow m M2 := Grow.keep' hg1 fun x y hx hy => hk2 x y (.inl (by omega)) hy
        have hM2B := h2.len
        obtain ⟨cv3, M3, p1, p2, p3, p4, p5⟩ := (hgs2.app (g := [Blk.cells true [[V.int .i64 (q : Int), V.int .i64 0]]])).push (T := M2.length) (own := true) (x := [V.int .i64 (q : Int), V.int .i64 0]) (zero := [.int .i64 0, .int .i64 0]) (bytes := 16) rfl (by simp) (by rw [encC_len]; simp [roomy]; omega) (by simp; omega)
        have hcvb : ∀ x, blkOf cv = some x → x < M1.length := fun x hx => (hgs1.blk hx).2
        have h3 : TM B M3 nv rv n { enterT s q with calls := s.calls } sv2 := h2.keep fun x y hx hy => by
          refine p3 x y (fun e => ?_) (getElem?_grow hy)
          rcases hx with hx | hx
          · have := (hgs1.blk e).1; omega
          · rcases hb2 with e2 | ⟨z, hz1, e2⟩
            · rw [e2] at hx; exact hTC.ap x e hx
            · rw [e2] at hx
              have := hcvb x e
              simp only [Option.some.injEq] at hx
              omega
        have hg3 : Grow m M3 := Grow.keep' hg2 fun x y hx hy => p3 x y (fun e => by have := (hgs1.blk e).1; omega) (getElem?_grow hy)
        have hap3 : ∀ x, blkOf cv3 = some x → blkOf sv2 ≠ some x := by
          intro x hx e
          have hsx := (h2.St.blk e).2
          rcases p4 with e2 | e2
          · rw [e2] at hx
            rcases hb2 with e3 | ⟨z, hz1, e3⟩
            · rw [e3] at e; exact hTC.ap x hx e
            · rw [e3] at e
              have := hcvb x hx
              simp only [Option.some.injEq] at e
              omega
          · rw [e2] at hx
            simp only [Option.some.injEq, List.length_append, List.length_singleton] at hx
            omega
        simp (maxDischargeDepth := 30) only [aft_mk, f0, f4, amL, args0, Nat.reduceEqDiff, reduceCtorEq, ↓reduceIte, Nat.reduceAdd, resultsA, results1, Int.reduceNeg, splice, Nat.reduceLeDiff, part, fillA, fillE, Nat.reduceLT]
        refine ⟨_, _, p1, ?_⟩
        refine ⟨_, mu_new hcs hq hqn h0, enterT (nextEdge s c i rest) q, sv2, cv3, rfl, ?_, ?_, ⟨h3.congr rfl rfl rfl rfl rfl rfl, ?_, hap3, hg3⟩, inv_new hI hcs hq hqn h0, ?_, ?_⟩
        · simp (maxDischargeDepth := 30) only [f0, amL, args0, Nat.reduceEqDiff, reduceCtorEq, ↓reduceIte, Nat.reduceAdd, resultsA, results1, Int.reduceNeg, splice, Nat.reduceLeDiff, part, fillA, fillE, Nat.reduceLT]
        · simp (maxDischargeDepth := 30) only [amL, args0, Nat.reduceEqDiff, reduceCtorEq, ↓reduceIte, Nat.reduceAdd, resultsA, results1, Int.reduceNeg, splice, Nat.reduceLeDiff, part, fillA, fillE, Nat.reduceLT]
        · have : (enterT (nextEdge s c i rest) q).calls = (q, 0) :: (c, i + 1) :: rest := rfl
          rw [this, encC_cons]; exact p2
        · intro p hp
          show upd s.ix q (s.next + 1) p ≠ 0
          by_cases e : p = q
          · rw [e, upd_self]; omega
          · rw [upd_ne e]; exact hmono p hp
        · show s.next + 1 + _ ≤ n
          omega
      · have h0' : ¬ ((s.ix q : Nat) : Int) = 0 := by omega
        have ixO := h1.slO.index (ki := .i64) (n := q) (by omega) (by rw [boolF_len]; omega)
        have ldO := fun o k => h1.slO.load (o := o) (k := k) (boolF_get hqn)
        simp only [Int.toNat_natCast] at ixO
        have htopm : (c, i) ∈ s.calls := by rw [hcs]; simp
        cases hon : s.on q with
        | true =>
          rw [hon] at ldO
          have hqs : q ∈ s.stack := (hI.on_iff q).1 hon
          have ixc1 := hgs1.sl.index (ki := .i64) (n := rest.length) (by omega) (by rw [encC_len]; simp; omega)
          have ldc1 := fun o k => hgs1.sl.load (o := o) (k := k) (encC_top (c := (c, i + 1)) (l := rest))
          have ixL := h1.slL.index (ki := .i64) (n := c) (by omega) (by rw [natF_len]; omega)
          have ldL := fun o k => h1.slL.load (o := o) (k := k) (natF_get hcn)
          have hmn : (if ((s.ix q : Nat) : Int) < (s.low c : Nat) then ((s.ix q : Nat) : Int) else (s.low c : Nat)) = ((min (s.low c) (s.ix q) : Nat) : Int) := by split <;> omega
          have stL := store_own (n := 1) (len := n) (cap := n) (z := 1) (ex := true) (x := .int .i64 ((min (s.low c) (s.ix q) : Nat) : Int)) h1.L (natF_get hcn) rfl rfl rfl
          simp only [Int.toNat_natCast, V.cells, natF_set] at ixL stL
          have h2 := h1.setL (f := upd s.low c (min (s.low c) (s.ix q)))
          have hinv := inv_skip hI hcs hq h0 (upd s.low c (min (s.low c) (s.ix q))) (fun x hx => upd_ne hx) (by rw [upd_self]; omega) (by
            rw [upd_self]
            by_cases hle : s.low c ≤ s.ix q
            · rw [Nat.min_eq_left hle]; exact hI.low_is _ htopm
            · rw [Nat.min_eq_right (by omega)]; exact ⟨q, hqs, rfl, Rch.one (List.mem_of_getElem? hq)⟩) (fun _ => by rw [upd_self]; omega)
          simp (maxDischargeDepth := 30) only [f0, f4, hcl, c0, w0, ixc, ldc, ldT, ldN, r0, List.append_nil, hcellp, ixn, ldn, htl, hdone', ixt, ldt, w1, st1, ldT1, ixI, ldI, h0', ixO, ldO, ldc1, ixL, ldL, hmn, stL, amL, args0, Nat.reduceEqDiff, reduceCtorEq, ↓reduceIte, Nat.reduceAdd, resultsA, results1, Int.reduceNeg, splice, Nat.reduceLeDiff, part, fillA, fillE, Nat.reduceLT]
          refine ⟨_, mu_skip hcs hq { nextEdge s c i rest with low := upd s.low c (min (s.low c) (s.ix q)) } rfl rfl, _, sv, cv, rfl, ?_, ?_, ⟨h2.congr rfl rfl rfl rfl rfl rfl, ?_, hTC.ap, hg1.set (by omega) _⟩, hinv, hmono, hun⟩
          · simp (maxDischargeDepth := 30) only [f0, amL, args0, Nat.reduceEqDiff, reduceCtorEq, ↓reduceIte, Nat.reduceAdd, resultsA, results1, Int.reduceNeg, splice, Nat.reduceLeDiff, part, fillA, fillE, Nat.reduceLT]
          · simp (maxDischargeDepth := 30) only [f4, amL, args0, Nat.reduceEqDiff, reduceCtorEq, ↓reduceIte, Nat.reduceAdd, resultsA, results1, Int.reduceNeg, splice, Nat.reduceLeDiff, part, fillA, fillE, Nat.reduceLT]
          · exact hgs1.keep fun x y hx hy => set_get (by have := (hgs1.blk hx).1; omega) hy
        | false =>
          rw [hon] at ldO
          have hqs : q ∉ s.stack := fun hm => by rw [(hI.on_iff q).2 hm] at hon; cases hon
          have hinv := inv_skip hI hcs hq h0 s.low (fun _ _ => rfl) (Nat.le_refl _) (hI.low_is _ htopm) (fun hm => absurd hm hqs)
          simp (maxDischargeDepth := 30) only [f0, f4, hcl, c0, w0, ixc, ldc, ldT, ldN, r0, List.append_nil, hcellp, ixn, ldn, htl, hdone', ixt, ldt, w1, st1, ldT1, ixI, ldI, h0', ixO, ldO, amL, args0, Nat.reduceEqDiff, reduceCtorEq, ↓reduceIte, Nat.reduceAdd, resultsA, results1, Int.reduceNeg, splice, Nat.reduceLeDiff, part, fillA, fillE, Nat.reduceLT]
          refine ⟨_, mu_skip hcs hq { nextEdge s c i rest with low := s.low } rfl rfl, _, sv, cv, rfl, ?_, ?_, ⟨h1.congr rfl rfl rfl rfl rfl rfl, hgs1, hTC.ap, hg1⟩, hinv, hmono, hun⟩
          · simp (maxDischargeDepth := 30) only [f0, amL, args0, Nat.reduceEqDiff, reduceCtorEq, ↓reduceIte, Nat.reduceAdd, resultsA, results1, Int.reduceNeg, splice, Nat.reduceLeDiff, part, fillA, fillE, Nat.reduceLT]
          · simp (maxDischargeDepth := 30) only [f4, amL, args0, Nat.reduceEqDiff, reduceCtorEq, ↓reduceIte, Nat.reduceAdd, resultsA, results1, Int.reduceNeg, splice, Nat.reduceLeDiff, part, fillA, fillE, Nat.reduceLT]
end Go.AM.G
