/- Part of the proof: contracts of functions of the given program on an abstract machine. -/
import Derived.Test.YtnpefpiggklimaaGraphA
set_option linter.unusedVariables false
set_option linter.unusedSimpArgs false
set_option maxRecDepth 100000
namespace Go.AM.G
open Go Go.AM
def blkOf : V → Option Nat
  | .slice b _ _ _ _ _ => some b
  | _ => none
/-- a slice that grows and shrinks at its end. -/
def GS (B : Nat) (M : Mem) (u : V) (z : Nat) (L : List (List V)) : Prop := (u = .nils ∧ L = []) ∨ ∃ b ex els, B ≤ b ∧ u = .slice b 0 L.length els.length ex z ∧ M[b]? = some (.cells true els) ∧ els.take L.length = L
theorem GS.sl {B z : Nat} {M : Mem} {u : V} {L : List (List V)} (h : GS B M u z L) : Sl M u z L := by
  rcases h with ⟨rfl, rfl⟩ | ⟨b, ex, els, _, rfl, h3, h4⟩
  · exact ⟨rfl, rfl⟩
  · have hl : L.length ≤ els.length := by
      have := congrArg List.length h4
      simp only [List.length_take] at this
      omega
    simp [Sl, elems, h3, zOk, hl, h4]
theorem GS.keep {B z : Nat} {M M' : Mem} {u : V} {L : List (List V)} (h : GS B M u z L) (hk : ∀ c y, blkOf u = some c → M[c]? = some y → M'[c]? = some y) : GS B M' u z L := by
  rcases h with h | ⟨b, ex, els, h1, rfl, h3, h4⟩
  · exact .inl h
  · exact .inr ⟨b, ex, els, h1, rfl, hk b _ rfl h3, h4⟩
theorem GS.blk {B z : Nat} {M : Mem} {u : V} {L : List (List V)} (h : GS B M u z L) {c : Nat} (hc : blkOf u = some c) : B ≤ c ∧ c < M.length := by
  rcases h with ⟨rfl, _⟩ | ⟨b, ex, els, h1, rfl, h3, h4⟩
  · cases hc
  · cases hc
    exact ⟨h1, (List.getElem?_eq_some_iff.1 h3).1⟩
theorem GS.app {B z : Nat} {M g : Mem} {u : V} {L : List (List V)} (h : GS B M u z L) : GS B (M ++ g) u z L := h.keep fun _ _ _ hy => getElem?_grow hy
/-- one more at the end. -/
theorem GS.push {B z : Nat} {M : Mem} {u : V} {T bytes : Nat} {own : Bool} {L : List (List V)} {x zero : List V} (h : GS B M u z L) (hz : zero.length = z) (hT : M[T]? = some (.cells own [x])) (hr : roomy (L.length + 1) bytes = true) (hB : B ≤ M.length) :
    ∃ u' M', appendV M zero bytes u (.slice T 0 1 1 true z) = some (u', M') ∧ GS B M' u' z (L ++ [x]) ∧ (∀ c y, blkOf u ≠ some c → M[c]? = some y → M'[c]? = some y) ∧ (blkOf u' = blkOf u ∨ blkOf u' = some M.length) ∧ M.length ≤ M'.length := by
  have he : elems M (.slice T 0 1 1 true z) = some [x] := by simp [elems, hT]
  subst hz
  rcases h with ⟨rfl, rfl⟩ | ⟨b, ex, els, h1, rfl, h3, h4⟩
  · refine ⟨.slice M.length 0 1 1 false zero.length, M ++ [.cells true [x]], ?_, .inr ⟨M.length, false, [x], hB, rfl, by simp, rfl⟩, fun c y _ hy => getElem?_grow hy, .inr rfl, by simp⟩
    have hr' : roomy 1 bytes = true := hr
    simp [appendV, elemsY_of he, zOk, hr']
  · have hbl := (List.getElem?_eq_some_iff.1 h3).1
    have hl : L.length ≤ els.length := by
      have := congrArg List.length h4
      simp only [List.length_take] at this
      omega
    by_cases hfit : L.length + 1 ≤ els.length
    · have hov : (over els L.length [x]).length = els.length := by simp [over]; omega
      refine ⟨.slice b 0 (L.length + 1) els.length ex zero.length, M.set b (.cells true (over els L.length [x])), ?_, .inr ⟨b, ex, over els L.length [x], h1, by simp [hov], List.getElem?_set_self hbl, ?_⟩, fun c y hc hy => ?_, .inl rfl, by simp⟩
      · simp [appendV, elemsY_of he, zOk, h3, hfit, hl]
      · unfold over
        rw [h4, List.length_append, List.length_singleton, ← List.append_assoc, List.take_left' (by simp)]
      · rw [List.getElem?_set_ne (fun e => hc (by rw [e]; rfl))]
        exact hy
    · have hle : els.length = L.length := by omega
      have hee : els = L := by rw [← h4, ← hle, List.take_length]
      subst hee
      cases ex with
      | true =>
        refine ⟨.slice M.length 0 (els.length + 1) (els.length + 1) false zero.length, M ++ [.cells true (els ++ [x])], ?_, .inr ⟨M.length, false, els ++ [x], hB, by simp, by simp, by rw [List.take_length]⟩, fun c y _ hy => getElem?_grow hy, .inr rfl, by simp⟩
        simp [appendV, elemsY_of he, zOk, h3, hr]
      | false =>
        refine ⟨.slice M.length 0 (els.length + 1) (els.length + 1) false zero.length, M.set b .dead ++ [.cells true (els ++ [x])], ?_, .inr ⟨M.length, false, els ++ [x], hB, by simp, ?_, by rw [List.take_length]⟩, fun c y hc hy => ?_, .inr rfl, by simp⟩
        · simp [appendV, elemsY_of he, zOk, h3, hr]
        · rw [List.getElem?_append_right (by simp)]; simp
        · refine getElem?_grow ?_
          rw [List.getElem?_set_ne (fun e => hc (by rw [e]; rfl))]
          exact hy
/-- its end is cut off. -/
theorem GS.cut {B z : Nat} {M : Mem} {u : V} {L : List (List V)} (h : GS B M u z L) {k : Nat} (hk : k ≤ L.length) : ∃ u', sliceV u none (some (.int .i64 k)) none = some u' ∧ GS B M u' z (L.take k) ∧ blkOf u' = blkOf u := by
  rcases h with ⟨rfl, rfl⟩ | ⟨b, ex, els, h1, rfl, h3, h4⟩
  · have : k = 0 := by simpa using hk
    subst this
    exact ⟨.nils, by simp [sliceV, bound], .inl ⟨rfl, rfl⟩, rfl⟩
  · have hl : L.length ≤ els.length := by
      have := congrArg List.length h4
      simp only [List.length_take] at this
      omega
    have e1 : k ≤ els.length := by omega
    refine ⟨.slice b 0 k els.length ex z, by simp [sliceV, bound, e1], .inr ⟨b, ex, els, h1, ?_, h3, ?_⟩, rfl⟩
    · simp [Nat.min_eq_left hk]
    · rw [List.length_take, Nat.min_eq_left hk]
      conv => rhs; rw [← h4]
      rw [List.take_take, Nat.min_eq_left hk]
/-- its end. -/
theorem GS.tail {B z : Nat} {M : Mem} {u : V} {L : List (List V)} (h : GS B M u z L) {k : Nat} (hk : k ≤ L.length) : ∃ u', sliceV u (some (.int .i64 k)) none none = some u' ∧ Sl M u' z (L.drop k) := by
  rcases h with ⟨rfl, rfl⟩ | ⟨b, ex, els, h1, rfl, h3, h4⟩
  · have : k = 0 := by simpa using hk
    subst this
    exact ⟨.nils, by simp [sliceV, bound], ⟨rfl, rfl⟩⟩
  · have hl : L.length ≤ els.length := by
      have := congrArg List.length h4
      simp only [List.length_take] at this
      omega
    refine ⟨.slice b k (L.length - k) (els.length - k) ex z, by simp [sliceV, bound, hk], ?_, by simp [zOk]⟩
    simp only [elems, h3]
    rw [if_pos (by omega)]
    conv => rhs; rw [← h4]
    rw [List.drop_take]
/-! ### rows that tell a function -/
def natF (n : Nat) (f : Nat → Nat) : List (List V) := (List.range n).map fun p => [.int .i64 (f p)]
def boolF (n : Nat) (f : Nat → Bool) : List (List V) := (List.range n).map fun p => [.bool (f p)]
abbrev nats (l : List Nat) : List (List V) := l.map fun p : Nat => [V.int .i64 (p : Int)]
theorem natF_len {n : Nat} {f : Nat → Nat} : (natF n f).length = n := by simp [natF]
theorem boolF_len {n : Nat} {f : Nat → Bool} : (boolF n f).length = n := by simp [boolF]
theorem natF_get {n p : Nat} {f : Nat → Nat} (h : p < n) : (natF n f)[p]? = some [.int .i64 (f p)] := by simp [natF, h]
theorem boolF_get {n p : Nat} {f : Nat → Bool} (h : p < n) : (boolF n f)[p]? = some [.bool (f p)] := by simp [boolF, h]
theorem natF_set {n p v : Nat} {f : Nat → Nat} : (natF n f).set p [.int .i64 v] = natF n (upd f p v) := by
  apply List.ext_getElem?
  intro i
  by_cases hi : i < n
  · by_cases e : p = i
    · subst e
      rw [List.getElem?_set_self (by rw [natF_len]; exact hi), natF_get hi, upd_self]
    · rw [List.getElem?_set_ne e, natF_get hi, natF_get hi, upd_ne (Ne.symm e)]
  · rw [List.getElem?_eq_none (by simp [natF_len]; omega), List.getElem?_eq_none (by simp [natF_len]; omega)]
theorem boolF_set {n p : Nat} {v : Bool} {f : Nat → Bool} : (boolF n f).set p [.bool v] = boolF n (upd f p v) := by
  apply List.ext_getElem?
  intro i
  by_cases hi : i < n
  · by_cases e : p = i
    · subst e
      rw [List.getElem?_set_self (by rw [boolF_len]; exact hi), boolF_get hi, upd_self]
    · rw [List.getElem?_set_ne e, boolF_get hi, boolF_get hi, upd_ne (Ne.symm e)]
  · rw [List.getElem?_eq_none (by simp [boolF_len]; omega), List.getElem?_eq_none (by simp [boolF_len]; omega)]
/-- Tarjan's state in the memory. -/
structure TM (B : Nat) (M : Mem) (nv rv : V) (n : Nat) (s : TS) (sv : V) : Prop where
  T : M[B + 5]? = some (.cells true [[.ptr B 0 0, .slice (B + 1) 0 n n true 1, .slice (B + 2) 0 n n true 1, sv, .slice (B + 3) 0 n n true 1, .slice (B + 4) 0 n n true 1, .int .i64 s.next]])
  N : M[B]? = some (.cells true [[nv, rv]])
  I : M[B + 1]? = some (.cells true (natF n s.ix))
  L : M[B + 2]? = some (.cells true (natF n s.low))
  O : M[B + 3]? = some (.cells true (boolF n s.on))
  P : M[B + 4]? = some (.cells true (natF n s.parts))
  St : GS (B + 6) M sv 1 (nats s.stack)
section
variable {B n : Nat} {M : Mem} {nv rv sv : V} {s : TS}
theorem TM.slI (h : TM B M nv rv n s sv) : Sl M (.slice (B + 1) 0 n n true 1) 1 (natF n s.ix) := by have := Sl.mk (cap := n) (ex := true) (z := 1) h.I; rwa [natF_len] at this
theorem TM.slL (h : TM B M nv rv n s sv) : Sl M (.slice (B + 2) 0 n n true 1) 1 (natF n s.low) := by have := Sl.mk (cap := n) (ex := true) (z := 1) h.L; rwa [natF_len] at this
theorem TM.slO (h : TM B M nv rv n s sv) : Sl M (.slice (B + 3) 0 n n true 1) 1 (boolF n s.on) := by have := Sl.mk (cap := n) (ex := true) (z := 1) h.O; rwa [boolF_len] at this
theorem TM.slP (h : TM B M nv rv n s sv) : Sl M (.slice (B + 4) 0 n n true 1) 1 (natF n s.parts) := by have := Sl.mk (cap := n) (ex := true) (z := 1) h.P; rwa [natF_len] at this
theorem TM.keep {M' : Mem} (h : TM B M nv rv n s sv) (hk : ∀ c y, (B ≤ c ∧ c < B + 6 ∨ blkOf sv = some c) → M[c]? = some y → M'[c]? = some y) : TM B M' nv rv n s sv :=
  ⟨hk _ _ (.inl ⟨by omega, by omega⟩) h.T, hk _ _ (.inl ⟨by omega, by omega⟩) h.N, hk _ _ (.inl ⟨by omega, by omega⟩) h.I, hk _ _ (.inl ⟨by omega, by omega⟩) h.L, hk _ _ (.inl ⟨by omega, by omega⟩) h.O, hk _ _ (.inl ⟨by omega, by omega⟩) h.P, h.St.keep fun c y hc hy => hk c y (.inr hc) hy⟩
theorem TM.app {g : Mem} (h : TM B M nv rv n s sv) : TM B (M ++ g) nv rv n s sv := h.keep fun _ _ _ hy => getElem?_grow hy
theorem TM.len (h : TM B M nv rv n s sv) : B + 6 ≤ M.length := by have := (List.getElem?_eq_some_iff.1 h.T).1; omega
theorem TM.ne (h : TM B M nv rv n s sv) {c : Nat} (hc : c < B + 6) : blkOf sv ≠ some c := fun e => by have := (h.St.blk e).1; omega
/-- a block of the state is written. -/
theorem TM.other {b : Nat} {x : Blk} (h : TM B M nv rv n s sv) (hb : B + 6 ≤ b) (hne : blkOf sv ≠ some b) : TM B (M.set b x) nv rv n s sv := h.keep fun c y hc hy => by
  rw [List.getElem?_set_ne]
  · exact hy
  · rintro rfl
    rcases hc with hc | hc
    · omega
    · exact hne hc
theorem set_get {b c : Nat} {x y : Blk} (hne : b ≠ c) (h : M[c]? = some y) : (M.set b x)[c]? = some y := by rw [List.getElem?_set_ne hne]; exact h
theorem set_self' {b : Nat} {x y : Blk} (h : M[b]? = some y) : (M.set b x)[b]? = some x := List.getElem?_set_self (List.getElem?_eq_some_iff.1 h).1
theorem TM.setI {f : Nat → Nat} (h : TM B M nv rv n s sv) : TM B (M.set (B + 1) (.cells true (natF n f))) nv rv n { s with ix := f } sv :=
  ⟨set_get (by omega) h.T, set_get (by omega) h.N, set_self' h.I, set_get (by omega) h.L, set_get (by omega) h.O, set_get (by omega) h.P, h.St.keep fun c y hc hy => set_get (by have := (h.St.blk hc).1; omega) hy⟩
theorem TM.setL {f : Nat → Nat} (h : TM B M nv rv n s sv) : TM B (M.set (B + 2) (.cells true (natF n f))) nv rv n { s with low := f } sv :=
  ⟨set_get (by omega) h.T, set_get (by omega) h.N, set_get (by omega) h.I, set_self' h.L, set_get (by omega) h.O, set_get (by omega) h.P, h.St.keep fun c y hc hy => set_get (by have := (h.St.blk hc).1; omega) hy⟩
theorem TM.setO {f : Nat → Bool} (h : TM B M nv rv n s sv) : TM B (M.set (B + 3) (.cells true (boolF n f))) nv rv n { s with on := f } sv :=
  ⟨set_get (by omega) h.T, set_get (by omega) h.N, set_get (by omega) h.I, set_get (by omega) h.L, set_self' h.O, set_get (by omega) h.P, h.St.keep fun c y hc hy => set_get (by have := (h.St.blk hc).1; omega) hy⟩
theorem TM.setP {f : Nat → Nat} (h : TM B M nv rv n s sv) : TM B (M.set (B + 4) (.cells true (natF n f))) nv rv n { s with parts := f } sv :=
  ⟨set_get (by omega) h.T, set_get (by omega) h.N, set_get (by omega) h.I, set_get (by omega) h.L, set_get (by omega) h.O, set_self' h.P, h.St.keep fun c y hc hy => set_get (by have := (h.St.blk hc).1; omega) hy⟩
theorem TM.setN {k : Nat} (h : TM B M nv rv n s sv) : TM B (M.set (B + 5) (.cells true [[.ptr B 0 0, .slice (B + 1) 0 n n true 1, .slice (B + 2) 0 n n true 1, sv, .slice (B + 3) 0 n n true 1, .slice (B + 4) 0 n n true 1, .int .i64 k]])) nv rv n { s with next := k } sv :=
  ⟨set_self' h.T, set_get (by omega) h.N, set_get (by omega) h.I, set_get (by omega) h.L, set_get (by omega) h.O, set_get (by omega) h.P, h.St.keep fun c y hc hy => set_get (by have := (h.St.blk hc).1; omega) hy⟩
/-- the stack's slice is written. -/
theorem TM.setS {sv' : V} {st : List Nat} (h : TM B M nv rv n s sv) (hs : GS (B + 6) M sv' 1 (nats st)) : TM B (M.set (B + 5) (.cells true [[.ptr B 0 0, .slice (B + 1) 0 n n true 1, .slice (B + 2) 0 n n true 1, sv', .slice (B + 3) 0 n n true 1, .slice (B + 4) 0 n n true 1, .int .i64 s.next]])) nv rv n { s with stack := st } sv' :=
  ⟨set_self' h.T, set_get (by omega) h.N, set_get (by omega) h.I, set_get (by omega) h.L, set_get (by omega) h.O, set_get (by omega) h.P, hs.keep fun c y hc hy => set_get (by have := (hs.blk hc).1; omega) hy⟩
end
/-- what a step on Tarjan's state leaves alone: all that is not its. -/
def Kept (B : Nat) (sv : V) (M M' : Mem) : Prop := ∀ c y, (c < B ∨ B + 6 ≤ c ∧ blkOf sv ≠ some c) → M[c]? = some y → M'[c]? = some y
theorem Kept.set {B b : Nat} {sv : V} {M M' : Mem} {x : Blk} (h : Kept B sv M M') (hb : B ≤ b ∧ b < B + 6) : Kept B sv M (M'.set b x) := fun c y hc hy => set_get (by omega) (h c y hc hy)
theorem Kept.app {B : Nat} {sv : V} {M M' g : Mem} (h : Kept B sv M M') : Kept B sv M (M' ++ g) := fun c y hc hy => getElem?_grow (h c y hc hy)
theorem enter_spec {B n : Nat} {M : Mem} {nv rv sv : V} {s : TS} {p : Nat} (h : TM B M nv rv n s sv) (hp : p < n) (hn : n ≤ 4096) (hnext : s.next < n) (hst : s.stack.length < n) :
    C S n_graph_tarjan_enter [.ptr (B + 5) 0 0, .int .i64 p] M (fun r M' => r = .agg [.int .i64 p, .int .i64 0] ∧ ∃ sv', TM B M' nv rv n { enterT s p with calls := s.calls } sv' ∧ (blkOf sv' = blkOf sv ∨ ∃ c, M.length ≤ c ∧ blkOf sv' = some c) ∧ Kept B sv M M' ∧ M.length ≤ M'.length) := by
  refine C_body rfl rfl rfl ?_
  unfold graph_tarjan_enter
  have h1 := h.app (g := [Blk.cells true [[V.int .i64 0, V.int .i64 0]]])
  have k1 : Kept B sv M (M ++ [Blk.cells true [[V.int .i64 0, V.int .i64 0]]]) := fun c y _ hy => getElem?_grow hy
  have r1 : (M ++ [Blk.cells true [[V.int .i64 0, V.int .i64 0]]])[M.length]? = some (.cells true [[V.int .i64 0, V.int .i64 0]]) := by simp
  have hML := h.len
  simp (maxDischargeDepth := 30) only [amL, args0, Nat.reduceEqDiff, reduceCtorEq, ↓reduceIte, Nat.reduceAdd, resultsA, results1, Int.reduceNeg, splice, Nat.reduceLeDiff, part, fillA, fillE, Nat.reduceLT]
  generalize M ++ [Blk.cells true [[V.int .i64 0, V.int .i64 0]]] = M1 at h1 k1 r1
  have w1 : IntKind.i64.wrap ((s.next : Int) + 1) = ((s.next + 1 : Nat) : Int) := by rw [wrap_i64] <;> omega
  have s1 := store_at0 (x := .int .i64 ((s.next + 1 : Nat) : Int)) (j := 6) (n := 1) h1.T rfl (by simp) rfl
  have e1 : splice [V.ptr B 0 0, .slice (B + 1) 0 n n true 1, .slice (B + 2) 0 n n true 1, sv, .slice (B + 3) 0 n n true 1, .slice (B + 4) 0 n n true 1, .int .i64 s.next] 6 (V.int .i64 ((s.next + 1 : Nat) : Int)).cells = [V.ptr B 0 0, .slice (B + 1) 0 n n true 1, .slice (B + 2) 0 n n true 1, sv, .slice (B + 3) 0 n n true 1, .slice (B + 4) 0 n n true 1, .int .i64 (s.next + 1 : Nat)] := rfl
  rw [e1] at s1
  have h2 := h1.setN (k := s.next + 1)
  have k2 := k1.set (b := B + 5) (x := .cells true [[V.ptr B 0 0, .slice (B + 1) 0 n n true 1, .slice (B + 2) 0 n n true 1, sv, .slice (B + 3) 0 n n true 1, .slice (B + 4) 0 n n true 1, .int .i64 (s.next + 1 : Nat)]]) ⟨by omega, by omega⟩
  have r2 := set_get (x := .cells true [[V.ptr B 0 0, .slice (B + 1) 0 n n true 1, .slice (B + 2) 0 n n true 1, sv, .slice (B + 3) 0 n n true 1, .slice (B + 4) 0 n n true 1, .int .i64 (s.next + 1 : Nat)]]) (b := B + 5) (by omega) r1
  simp (maxDischargeDepth := 30) only [load_at0 h1.T, w1, s1, amL, args0, Nat.reduceEqDiff, reduceCtorEq, ↓reduceIte, Nat.reduceAdd, resultsA, results1, Int.reduceNeg, splice, Nat.reduceLeDiff, part, fillA, fillE, Nat.reduceLT]
  generalize M1.set (B + 5) (.cells true [[V.ptr B 0 0, .slice (B + 1) 0 n n true 1, .slice (B + 2) 0 n n true 1, sv, .slice (B + 3) 0 n n true 1, .slice (B + 4) 0 n n true 1, .int .i64 (s.next + 1 : Nat)]]) = M2 at h2 k2 r2
  have ixI := h2.slI.index (ki := .i64) (n := p) (by omega) (by rw [natF_len]; omega)
  have ixL := h2.slL.index (ki := .i64) (n := p) (by omega) (by rw [natF_len]; omega)
  have stI := store_own (n := 1) (len := n) (cap := n) (z := 1) (ex := true) (x := .int .i64 ((s.next + 1 : Nat) : Int)) h2.I (natF_get hp) rfl rfl rfl
  have h3 := h2.setI (f := upd s.ix p (s.next + 1))
  have stL := store_own (n := 1) (len := n) (cap := n) (z := 1) (ex := true) (x := .int .i64 ((s.next + 1 : Nat) : Int)) h3.L (natF_get hp) rfl rfl rfl
  simp only [V.cells, natF_set, Int.toNat_natCast] at ixI ixL stI stL
  have h4 := h3.setL (f := upd s.low p (s.next + 1))
  have k4 := (k2.set (b := B + 1) (x := .cells true (natF n (upd s.ix p (s.next + 1)))) ⟨by omega, by omega⟩).set (b := B + 2) (x := .cells true (natF n (upd s.low p (s.next + 1)))) ⟨by omega, by omega⟩
  have r4 := set_get (x := .cells true (natF n (upd s.low p (s.next + 1)))) (b := B + 2) (by omega) (set_get (x := .cells true (natF n (upd s.ix p (s.next + 1)))) (b := B + 1) (by omega) r2)
  simp (maxDischargeDepth := 30) only [List.replicate_zero, load_at0 h2.T, ixI, ixL, stI, stL, amL, args0, Nat.reduceEqDiff, reduceCtorEq, ↓reduceIte, Nat.reduceAdd, resultsA, results1, Int.reduceNeg, splice, Nat.reduceLeDiff, part, fillA, fillE, Nat.reduceLT]
  generalize ((M2.set (B + 1) (.cells true (natF n (upd s.ix p (s.next + 1))))).set (B + 2) (.cells true (natF n (upd s.low p (s.next + 1))))) = M4 at h4 k4 r4
  have ld4 : ∀ g j k, loadV (M4 ++ g) k (.ptr (B + 5) 0 j) = part [V.ptr B 0 0, .slice (B + 1) 0 n n true 1, .slice (B + 2) 0 n n true 1, sv, .slice (B + 3) 0 n n true 1, .slice (B + 4) 0 n n true 1, .int .i64 (s.next + 1 : Nat)] j k := fun g j k => load_at0 (h4.app (g := g)).T
  have hlen4 := h4.len
  obtain ⟨sv', M5, p1, p2, p3, p4, p5⟩ := (h4.app (g := [Blk.cells true [[V.int .i64 p]]])).St.push (T := M4.length) (own := true) (x := [V.int .i64 p]) (zero := [.int .i64 0]) (bytes := 8) rfl (by simp) (by simp [roomy]; omega) (by simp; omega)
  have hb5 : ∀ c y, (B ≤ c ∧ c < B + 6) → M4[c]? = some y → M5[c]? = some y := fun c y hc hy => p3 c y (h4.ne (by omega)) (getElem?_grow hy)
  have k5 : Kept B sv M M5 := fun c y hc hy => p3 c y (by rcases hc with hc | hc; exact h4.ne (by omega); exact hc.2) (getElem?_grow (k4 c y hc hy))
  have hrs : blkOf sv ≠ some M.length := fun e => by
    have := (h.St.blk e).2
    omega
  have r5 : M5[M.length]? = some (.cells true [[V.int .i64 0, V.int .i64 0]]) := p3 _ _ hrs (getElem?_grow r4)
  have hT5 := hb5 _ _ ⟨by omega, by omega⟩ h4.T
  have l5 : ∀ j k, loadV M5 k (.ptr (B + 5) 0 j) = part [V.ptr B 0 0, .slice (B + 1) 0 n n true 1, .slice (B + 2) 0 n n true 1, sv, .slice (B + 3) 0 n n true 1, .slice (B + 4) 0 n n true 1, .int .i64 (s.next + 1 : Nat)] j k := fun j k => load_at0 hT5
  have hsvc := p2.sl.cell
  have s5 := store_at0 (x := sv') (j := 3) (n := 1) hT5 (by rw [cells_cell hsvc]; rfl) (by simp) (by rw [cells_cell hsvc]; simp [hsvc])
  have e5 : splice [V.ptr B 0 0, .slice (B + 1) 0 n n true 1, .slice (B + 2) 0 n n true 1, sv, .slice (B + 3) 0 n n true 1, .slice (B + 4) 0 n n true 1, .int .i64 (s.next + 1 : Nat)] 3 sv'.cells = [V.ptr B 0 0, .slice (B + 1) 0 n n true 1, .slice (B + 2) 0 n n true 1, sv', .slice (B + 3) 0 n n true 1, .slice (B + 4) 0 n n true 1, .int .i64 (s.next + 1 : Nat)] := by rw [cells_cell hsvc]; rfl
  rw [e5] at s5
  have p2' : GS (B + 6) M5 sv' 1 (nats (s.stack ++ [p])) := by
    have : nats (s.stack ++ [p]) = nats s.stack ++ [[V.int .i64 (p : Int)]] := by simp
    rw [this]; exact p2
  have h6 : TM B (M5.set (B + 5) (.cells true [[V.ptr B 0 0, .slice (B + 1) 0 n n true 1, .slice (B + 2) 0 n n true 1, sv', .slice (B + 3) 0 n n true 1, .slice (B + 4) 0 n n true 1, .int .i64 (s.next + 1 : Nat)]])) nv rv n { s with ix := upd s.ix p (s.next + 1), low := upd s.low p (s.next + 1), stack := s.stack ++ [p], next := s.next + 1 } sv' :=
    ⟨set_self' hT5, set_get (by omega) (hb5 _ _ ⟨by omega, by omega⟩ h4.N), set_get (by omega) (hb5 _ _ ⟨by omega, by omega⟩ h4.I), set_get (by omega) (hb5 _ _ ⟨by omega, by omega⟩ h4.L), set_get (by omega) (hb5 _ _ ⟨by omega, by omega⟩ h4.O), set_get (by omega) (hb5 _ _ ⟨by omega, by omega⟩ h4.P), p2'.keep fun c y hc hy => set_get (by have := (p2'.blk hc).1; omega) hy⟩
  have k6 := k5.set (b := B + 5) (x := .cells true [[V.ptr B 0 0, .slice (B + 1) 0 n n true 1, .slice (B + 2) 0 n n true 1, sv', .slice (B + 3) 0 n n true 1, .slice (B + 4) 0 n n true 1, .int .i64 (s.next + 1 : Nat)]]) ⟨by omega, by omega⟩
  have r6 := set_get (x := .cells true [[V.ptr B 0 0, .slice (B + 1) 0 n n true 1, .slice (B + 2) 0 n n true 1, sv', .slice (B + 3) 0 n n true 1, .slice (B + 4) 0 n n true 1, .int .i64 (s.next + 1 : Nat)]]) (b := B + 5) (by omega) r5
  have ixO : asIndex 1 (.slice (B + 3) 0 n n true 1) (.int .i64 p) = some (atp (.slice (B + 3) 0 n n true 1) p 0) := by
    have := h6.slO.index (ki := .i64) (n := p) (by omega) (by rw [boolF_len]; omega)
    simpa using this
  have stO := store_own (n := 1) (len := n) (cap := n) (z := 1) (ex := true) (x := .bool true) h6.O (boolF_get hp) rfl rfl rfl
  simp only [V.cells, boolF_set] at stO
  have h7 := h6.setO (f := upd s.on p true)
  have k7 := k6.set (b := B + 3) (x := .cells true (boolF n (upd s.on p true))) ⟨by omega, by omega⟩
  have r7 := set_get (x := .cells true (boolF n (upd s.on p true))) (b := B + 3) (by omega) r6
  generalize hM7 : ((M5.set (B + 5) (.cells true [[V.ptr B 0 0, .slice (B + 1) 0 n n true 1, .slice (B + 2) 0 n n true 1, sv', .slice (B + 3) 0 n n true 1, .slice (B + 4) 0 n n true 1, .int .i64 (s.next + 1 : Nat)]])).set (B + 3) (.cells true (boolF n (upd s.on p true)))) = M7 at h7 k7 r7 stO
  have s7 := store_at0 (x := .agg [.int .i64 p, .int .i64 0]) (j := 0) (n := 2) r7 rfl (by simp) rfl
  have e7 : splice [V.int .i64 0, V.int .i64 0] 0 (V.agg [.int .i64 p, .int .i64 0]).cells = [V.int .i64 p, V.int .i64 0] := rfl
  rw [e7] at s7
  have hb1 : (V.slice (B + 3) 0 n n true 1).beq (.slice (B + 3) 0 n n true 1) = true := by simp [V.beq]
  have hrl := (List.getElem?_eq_some_iff.1 r7).1
  have l7 := fun k => load_set0 (M := M7) (b := M.length) (own := true) (el := [V.int .i64 p, V.int .i64 0]) (k := k) (j := 0) hrl
  have hlen7 : M7.length = M5.length := by rw [← hM7]; simp
  have hM4 : M.length ≤ M4.length := by have := (List.getElem?_eq_some_iff.1 r4).1; omega
  have hM5 : M.length ≤ M5.length := by simp at p5; omega
  have r2l : List.replicate 1 Blk.dead = [Blk.dead] := rfl
  simp (maxDischargeDepth := 30) only [r2l, ld4, p1, amL, args0, Nat.reduceEqDiff, reduceCtorEq, ↓reduceIte, Nat.reduceAdd, resultsA, results1, Int.reduceNeg, splice, Nat.reduceLeDiff, part, fillA, fillE, Nat.reduceLT]
  refine ⟨_, _, rfl, ⟨_, by rw [l5]; rfl, hb1⟩, _, s5, ?_⟩
  simp (maxDischargeDepth := 30) only [ixO, stO, s7, l7, amL, args0, Nat.reduceEqDiff, reduceCtorEq, ↓reduceIte, Nat.reduceAdd, resultsA, results1, Int.reduceNeg, splice, Nat.reduceLeDiff, part, fillA, fillE, Nat.reduceLT]
  have ht : ∀ c, blkOf sv' = some c → c ≠ M.length := fun c hc e => by
    rcases p4 with e2 | e2
    · rw [e2, e] at hc; exact hrs hc
    · rw [e2] at hc
      simp only [Option.some.injEq, List.length_append, List.length_singleton] at hc
      omega
  refine ⟨sv', (h7.other (by omega) (fun e => ht _ e rfl)), ?_, ?_, ?_⟩
  · rcases p4 with e2 | e2
    · exact .inl e2
    · exact .inr ⟨_, by simp; omega, e2⟩
  · intro c y hc hy
    have hcl := (List.getElem?_eq_some_iff.1 hy).1
    exact set_get (by omega) (k7 c y hc hy)
  · simp [hlen7]; omega
abbrev ints' (l : List Nat) : List Int := l.map fun p : Nat => (p : Int)
theorem nats_ints {l : List Nat} : nats l = i64s (ints' l) := by simp
theorem min_nat (c : Nat) (C : List Nat) : ∃ least : Nat, minL (c : Int) (ints' C) = least ∧ least ∈ c :: C ∧ ∀ q, q ∈ c :: C → least ≤ q := by
  obtain ⟨h1, h2, h3⟩ := minL_spec (ints' C) (c : Int)
  have : ∃ least : Nat, minL (c : Int) (ints' C) = least ∧ least ∈ c :: C := by
    rcases h1 with h1 | h1
    · exact ⟨c, h1, by simp⟩
    · obtain ⟨q, hq, e⟩ := List.mem_map.1 h1
      exact ⟨q, e.symm, by simp [hq]⟩
  obtain ⟨least, e, hm⟩ := this
  refine ⟨least, e, hm, fun q hq => ?_⟩
  rw [e] at h2 h3
  rcases List.mem_cons.1 hq with rfl | hq
  · omega
  · have := h3 (q : Int) (List.mem_map.2 ⟨q, hq, rfl⟩)
    omega
/-- what leaving a node does. -/
def leaveT (s : TS) (c : Nat) (A D : List Nat) (least : Nat) : TS := if s.low c = s.ix c then { s with stack := A, on := fun x => if x ∈ c :: D then false else s.on x, parts := fun x => if x ∈ c :: D then least else s.parts x } else s
def KeptAll (B : Nat) (M M' : Mem) : Prop := ∀ c y, (c < B ∨ B + 6 ≤ c) → M[c]? = some y → M'[c]? = some y
theorem leave_spec {B n : Nat} {M : Mem} {nv rv sv : V} {s : TS} {c : Nat} {A D : List Nat} (h : TM B M nv rv n s sv) (hc : c < n) (hn : n ≤ 4096) (hst : s.stack = A ++ c :: D) (hcA : c ∉ A) (hsn : ∀ q, q ∈ s.stack → q < n) (hsl : s.stack.length ≤ n) :
    C S n_graph_tarjan_leave [.ptr (B + 5) 0 0, .int .i64 c] M (fun _ M' => ∃ sv' least, least ∈ c :: D ∧ (∀ q, q ∈ c :: D → least ≤ q) ∧ TM B M' nv rv n (leaveT s c A D least) sv' ∧ blkOf sv' = blkOf sv ∧ KeptAll B M M' ∧ M'.length = M.length) := by
  obtain ⟨least, hmin, hl1, hl2⟩ := min_nat c D
  refine C_body rfl rfl rfl ?_
  unfold graph_tarjan_leave
  have ixI := h.slI.index (ki := .i64) (n := c) (by omega) (by rw [natF_len]; omega)
  have ixL := h.slL.index (ki := .i64) (n := c) (by omega) (by rw [natF_len]; omega)
  have ldI := fun o k => h.slI.load (o := o) (k := k) (natF_get hc)
  have ldL := fun o k => h.slL.load (o := o) (k := k) (natF_get hc)
  simp only [Int.toNat_natCast] at ixI ixL
  have ldT := fun j k => load_at0 (k := k) (j := j) h.T
  have r0 : List.replicate 0 Blk.dead = [] := rfl
  by_cases hlow : s.low c = s.ix c
  · have hlow' : ¬ ¬ ((s.low c : Nat) : Int) = s.ix c := by omega
    simp (maxDischargeDepth := 30) only [r0, List.append_nil, ldT, ixI, ixL, ldI, ldL, hlow', amL, args0, Nat.reduceEqDiff, reduceCtorEq, ↓reduceIte, Nat.reduceAdd, resultsA, results1, Int.reduceNeg, splice, Nat.reduceLeDiff, part, fillA, fillE, Nat.reduceLT]
    have hcA' : (c : Int) ∉ ints' A := fun hm => by
      obtain ⟨x, hx, e⟩ := List.mem_map.1 hm
      have : x = c := by omega
      exact hcA (this ▸ hx)
    have hstI : Sl M sv 1 (i64s (ints' s.stack)) := by rw [← nats_ints]; exact h.St.sl
    refine (Index_spec (c : Int) (A := ints' A) (D := ints' D) hstI (by simp; omega) (by rw [hst]; simp) hcA').mono ?_
    rintro _ _ ⟨rfl, rfl⟩
    have hAl : (ints' A).length = A.length := by simp
    have hsl2 : A.length ≤ (nats s.stack).length := by rw [hst]; simp
    obtain ⟨pv, hp1, hp2⟩ := h.St.tail hsl2
    have hdrop : (nats s.stack).drop A.length = nats (c :: D) := by
      rw [hst, ← List.map_drop, List.drop_left' rfl]
    rw [hdrop] at hp2
    have hz : zOk sv 1 = true := h.St.sl.2
    have hp3 : Sl M pv 1 (i64s ((c : Int) :: ints' D)) := by
      have : i64s ((c : Int) :: ints' D) = nats (c :: D) := by simp
      rw [this]; exact hp2
    have hDl : (c :: D).length ≤ n := by rw [hst] at hsl; simp at hsl ⊢; omega
    simp (maxDischargeDepth := 30) only [aft_mk, ldT, hAl, Option.map_none, hz, hp1, amL, args0, Nat.reduceEqDiff, reduceCtorEq, ↓reduceIte, Nat.reduceAdd, resultsA, results1, Int.reduceNeg, splice, Nat.reduceLeDiff, part, fillA, fillE, Nat.reduceLT]
    refine (Min_spec hp3 (by simp at hDl ⊢; omega)).mono ?_
    rintro _ _ ⟨rfl, rfl⟩
    rw [hmin]
    obtain ⟨P, hP⟩ : ∃ P, P = c :: D := ⟨_, rfl⟩
    rw [← hP] at hp2 hdrop hDl hl1 hl2 hst
    have hpl : (nats P).length = P.length := List.length_map _
    simp (maxDischargeDepth := 30) only [aft_mk, hp2.len, hpl, amL, args0, Nat.reduceEqDiff, reduceCtorEq, ↓reduceIte, Nat.reduceAdd, resultsA, results1, Int.reduceNeg, splice, Nat.reduceLeDiff, part, fillA, fillE, Nat.reduceLT]
    let onI := fun (i : Nat) => fun x => if x ∈ P.take i then false else s.on x
    let paI := fun (i : Nat) => fun x => if x ∈ P.take i then least else s.parts x
    let J := fun (k : Nat) (fr : Frame) (M' : Mem) => ∃ i : Nat, i ≤ P.length ∧ k = P.length - i ∧ fr 0 = .ptr (B + 5) 0 0 ∧ fr 4 = .int .i64 A.length ∧ fr 6 = .int .i64 least ∧ fr 38 = pv ∧ fr 39 = .int .i64 P.length ∧ fr 40 = .int .i64 i ∧ TM B M' nv rv n { s with on := onI i, parts := paI i } sv ∧ Sl M' pv 1 (nats P) ∧ KeptAll B M M' ∧ M'.length = M.length
    refine W_loop J ?_ P.length ?_
    · rintro k fr M' ⟨i, hi, rfl, f0, f4, f6, f38, f39, f40, hTM, hpv, hka, hlen⟩
      unfold graph_tarjan_leave_l0
      simp (maxDischargeDepth := 30) only [f0, f4, f6, f38, f39, f40, amL, args0, Nat.reduceEqDiff, reduceCtorEq, ↓reduceIte, Nat.reduceAdd, resultsA, results1, Int.reduceNeg, splice, Nat.reduceLeDiff, part, fillA, fillE, Nat.reduceLT]
      first | (refine O_split (by simp only [put_apply, Nat.reduceEqDiff, ↓reduceIte, reduceCtorEq]; rfl) (fun h' => ?_) (fun h' => ?_) <;> simp only [decide_eq_true_eq, decide_eq_false_iff_not, Decidable.not_not, Bool.and_eq_true, Bool.not_eq_true', Bool.not_eq_false'] at h') | (refine W_split (by simp only [get_t, put_apply, Nat.reduceEqDiff, ↓reduceIte, reduceCtorEq]; rfl) (fun h' => ?_) (fun h' => ?_) <;> simp only [decide_eq_true_eq, decide_eq_false_iff_not, Decidable.not_not, Bool.and_eq_true, Bool.not_eq_true', Bool.not_eq_false'] at h')
      · have hil : i < P.length := by omega
        obtain ⟨q, hq⟩ : ∃ q, P[i]? = some q := ⟨_, List.getElem?_eq_getElem hil⟩
        have hqn : q < n := hsn q (by rw [hst]; exact List.mem_append_right _ (List.mem_of_getElem? hq))
        have ix := hpv.index (ki := .i64) (n := i) (by omega) (by rw [hpl]; omega)
        have ld := fun o j => hpv.load (o := o) (k := j) (i := i) (el := [.int .i64 q]) (by simp [hq])
        simp only [Int.toNat_natCast] at ix ld
        have w1 : IntKind.i64.wrap ((i : Int) + 1) = ((i + 1 : Nat) : Int) := by rw [wrap_i64] <;> omega
        have hT' := fun j k => load_at0 (k := k) (j := j) hTM.T
        have ixP := hTM.slP.index (ki := .i64) (n := q) (by omega) (by rw [natF_len]; omega)
        have ixO := hTM.slO.index (ki := .i64) (n := q) (by omega) (by rw [boolF_len]; omega)
        have stP := store_own (n := 1) (len := n) (cap := n) (z := 1) (ex := true) (x := .int .i64 (least : Int)) hTM.P (natF_get hqn) rfl rfl rfl
        have h2 := hTM.setP (f := upd (paI i) q least)
        have stO := store_own (n := 1) (len := n) (cap := n) (z := 1) (ex := true) (x := .bool false) h2.O (boolF_get hqn) rfl rfl rfl
        simp only [V.cells, natF_set, boolF_set, Int.toNat_natCast] at ixP ixO stP stO
        have h3 := h2.setO (f := upd (onI i) q false)
        obtain ⟨hi1, hi2⟩ := List.getElem?_eq_some_iff.1 hq
        have htk : P.take (i + 1) = P.take i ++ [q] := by rw [List.take_succ_eq_append_getElem hi1, hi2]
        have eO : upd (onI i) q false = onI (i + 1) := by
          funext x
          simp only [onI, htk, List.mem_append, List.mem_singleton]
          by_cases e : x = q
          · rw [e, upd_self]; simp
          · rw [upd_ne e]; simp [e]
        have eP : upd (paI i) q least = paI (i + 1) := by
          funext x
          simp only [paI, htk, List.mem_append, List.mem_singleton]
          by_cases e : x = q
          · rw [e, upd_self]; simp
          · rw [upd_ne e]; simp [e]
        have hpb : ∀ b, B ≤ b → b < B + 6 → ∀ x : Blk, Sl (M'.set b x) pv 1 (nats P) → True := fun _ _ _ _ _ => trivial
        simp (maxDischargeDepth := 30) only [h', f0, f4, f6, f38, f39, f40, ix, ld, r0, List.append_nil, hT', ixP, ixO, stP, stO, w1, amL, args0, Nat.reduceEqDiff, reduceCtorEq, ↓reduceIte, Nat.reduceAdd, resultsA, results1, Int.reduceNeg, splice, Nat.reduceLeDiff, part, fillA, fillE, Nat.reduceLT]
        refine ⟨_, ?_, i + 1, by omega, rfl, ?_, ?_, ?_, ?_, ?_, ?_, ?_, ?_, ?_, ?_⟩
        · omega
        · simp (maxDischargeDepth := 30) only [f0, amL, args0, Nat.reduceEqDiff, reduceCtorEq, ↓reduceIte, Nat.reduceAdd, resultsA, results1, Int.reduceNeg, splice, Nat.reduceLeDiff, part, fillA, fillE, Nat.reduceLT]
        · simp (maxDischargeDepth := 30) only [f4, amL, args0, Nat.reduceEqDiff, reduceCtorEq, ↓reduceIte, Nat.reduceAdd, resultsA, results1, Int.reduceNeg, splice, Nat.reduceLeDiff, part, fillA, fillE, Nat.reduceLT]
        · simp (maxDischargeDepth := 30) only [f6, amL, args0, Nat.reduceEqDiff, reduceCtorEq, ↓reduceIte, Nat.reduceAdd, resultsA, results1, Int.reduceNeg, splice, Nat.reduceLeDiff, part, fillA, fillE, Nat.reduceLT]
        · simp (maxDischargeDepth := 30) only [f38, amL, args0, Nat.reduceEqDiff, reduceCtorEq, ↓reduceIte, Nat.reduceAdd, resultsA, results1, Int.reduceNeg, splice, Nat.reduceLeDiff, part, fillA, fillE, Nat.reduceLT]
        · simp (maxDischargeDepth := 30) only [f39, amL, args0, Nat.reduceEqDiff, reduceCtorEq, ↓reduceIte, Nat.reduceAdd, resultsA, results1, Int.reduceNeg, splice, Nat.reduceLeDiff, part, fillA, fillE, Nat.reduceLT]
        · simp (maxDischargeDepth := 30) only [amL, args0, Nat.reduceEqDiff, reduceCtorEq, ↓reduceIte, Nat.reduceAdd, resultsA, results1, Int.reduceNeg, splice, Nat.reduceLeDiff, part, fillA, fillE, Nat.reduceLT]
        · rw [eP, eO] at h3; rw [eP, eO]; exact h3
        · obtain ⟨u', hu1, hu2⟩ := h3.St.tail (k := A.length) hsl2
          rw [hp1] at hu1
          cases hu1
          rw [hdrop] at hu2
          exact hu2
        · intro x y hx hy
          exact set_get (by omega) (set_get (by omega) (hka x y hx hy))
        · simp [hlen]
      · have hii : i = P.length := by omega
        subst hii
        obtain ⟨sv', hs1, hs2, hs3⟩ := hTM.St.cut (k := A.length) (by rw [hst]; simp)
        have htake : (nats s.stack).take A.length = nats A := by rw [hst, ← List.map_take, List.take_left' rfl]
        have hs2 : GS (B + 6) M' sv' 1 (nats A) := by have := hs2; rwa [htake] at this
        have hsvc := hs2.sl.cell
        have hT' := fun j k => load_at0 (k := k) (j := j) hTM.T
        have s5 := store_at0 (x := sv') (j := 3) (n := 1) hTM.T (by rw [cells_cell hsvc]; rfl) (by simp) (by rw [cells_cell hsvc]; simp [hsvc])
        have e5 : splice [V.ptr B 0 0, .slice (B + 1) 0 n n true 1, .slice (B + 2) 0 n n true 1, sv, .slice (B + 3) 0 n n true 1, .slice (B + 4) 0 n n true 1, .int .i64 s.next] 3 sv'.cells = [V.ptr B 0 0, .slice (B + 1) 0 n n true 1, .slice (B + 2) 0 n n true 1, sv', .slice (B + 3) 0 n n true 1, .slice (B + 4) 0 n n true 1, .int .i64 s.next] := by rw [cells_cell hsvc]; rfl
        rw [e5] at s5
        have h6 := hTM.setS hs2
        simp (maxDischargeDepth := 30) only [h', f0, f4, f6, f38, f39, f40, hT', Option.map_none, hz, hs1, s5, amL, args0, Nat.reduceEqDiff, reduceCtorEq, ↓reduceIte, Nat.reduceAdd, resultsA, results1, Int.reduceNeg, splice, Nat.reduceLeDiff, part, fillA, fillE, Nat.reduceLT]
        refine ⟨sv', least, by rw [← hP]; exact hl1, by rw [← hP]; exact hl2, ?_, hs3, ?_, by simp [hlen]⟩
        · have e : leaveT s c A D least = { s with on := onI P.length, parts := paI P.length, stack := A } := by
            unfold leaveT
            rw [if_pos hlow, ← hP]
            simp only [onI, paI, List.take_length]
          rw [e]; exact h6
        · intro x y hx hy
          exact set_get (by omega) (hka x y hx hy)
    · refine ⟨0, Nat.zero_le _, rfl, by simp (maxDischargeDepth := 30) only [amL, args0, Nat.reduceEqDiff, reduceCtorEq, ↓reduceIte, Nat.reduceAdd, resultsA, results1, Int.reduceNeg, splice, Nat.reduceLeDiff, part, fillA, fillE, Nat.reduceLT], by simp (maxDischargeDepth := 30) only [amL, args0, Nat.reduceEqDiff, reduceCtorEq, ↓reduceIte, Nat.reduceAdd, resultsA, results1, Int.reduceNeg, splice, Nat.reduceLeDiff, part, fillA, fillE, Nat.reduceLT], by simp (maxDischargeDepth := 30) only [amL, args0, Nat.reduceEqDiff, reduceCtorEq, ↓reduceIte, Nat.reduceAdd, resultsA, results1, Int.reduceNeg, splice, Nat.reduceLeDiff, part, fillA, fillE, Nat.reduceLT], by simp (maxDischargeDepth := 30) only [amL, args0, Nat.reduceEqDiff, reduceCtorEq, ↓reduceIte, Nat.reduceAdd, resultsA, results1, Int.reduceNeg, splice, Nat.reduceLeDiff, part, fillA, fillE, Nat.reduceLT], by simp (maxDischargeDepth := 30) only [amL, args0, Nat.reduceEqDiff, reduceCtorEq, ↓reduceIte, Nat.reduceAdd, resultsA, results1, Int.reduceNeg, splice, Nat.reduceLeDiff, part, fillA, fillE, Nat.reduceLT], by simp (maxDischargeDepth := 30) only [amL, args0, Nat.reduceEqDiff, reduceCtorEq, ↓reduceIte, Nat.reduceAdd, resultsA, results1, Int.reduceNeg, splice, Nat.reduceLeDiff, part, fillA, fillE, Nat.reduceLT]; rfl, ?_, hp2, fun _ _ _ hy => hy, rfl⟩
      have e1 : onI 0 = s.on := by funext x; simp [onI]
      have e2 : paI 0 = s.parts := by funext x; simp [paI]
      rw [e1, e2]; exact h
  · have hlow' : ¬ ((s.low c : Nat) : Int) = s.ix c := by omega
    simp (maxDischargeDepth := 30) only [r0, List.append_nil, ldT, ixI, ixL, ldI, ldL, hlow', amL, args0, Nat.reduceEqDiff, reduceCtorEq, ↓reduceIte, Nat.reduceAdd, resultsA, results1, Int.reduceNeg, splice, Nat.reduceLeDiff, part, fillA, fillE, Nat.reduceLT]
    have e : leaveT s c A D least = s := by unfold leaveT; rw [if_neg hlow]
    exact ⟨sv, least, hl1, hl2, by rw [e]; exact h, rfl, fun _ _ _ hy => hy⟩
end Go.AM.G

set_option maxRecDepth 100000
namespace Go.AM.G
open Go Go.AM
/-- where a node leads. -/
def toN (N : List NodeA) (p : Nat) : List Nat := ((N[p]?).map fun x => x.to.map Int.toNat).getD []
theorem rises_ok : ∀ (l : List Int) (n last : Int), -1 ≤ last → risesB n last l = true → (∀ x ∈ l, last < x ∧ x < n) ∧ l.Pairwise (· < ·)
  | [], _, _, _, _ => ⟨by simp, List.Pairwise.nil⟩
  | a :: l, n, last, h0, h => by
    simp only [risesB, Bool.and_eq_true, decide_eq_true_eq] at h
    obtain ⟨h1, h2⟩ := rises_ok l n a (by omega) h.2
    refine ⟨fun x hx => ?_, List.pairwise_cons.2 ⟨fun x hx => (h1 x hx).1, h2⟩⟩
    rcases List.mem_cons.1 hx with rfl | hx
    · exact h.1
    · have := h1 x hx; omega
theorem nodes_ok : ∀ (l : List NodeA) (n last : Int), nodesB n last l = true → ∀ x ∈ l, risesB n (-1) x.to = true ∧ 1 ≤ x.words ∧ x.words ≤ 49 ∧ last < x.addr
  | [], _, _, _ => by simp
  | a :: l, n, last, h => by
    simp only [nodesB, Bool.and_eq_true, decide_eq_true_eq] at h
    intro x hx
    rcases List.mem_cons.1 hx with rfl | hx
    · exact ⟨h.2.2.1, h.2.1.1, h.2.1.2, h.1⟩
    · obtain ⟨a1, a2, a3, a4⟩ := nodes_ok l n a.addr h.2.2.2 x hx
      exact ⟨a1, a2, a3, by omega⟩
theorem ints_toNat {l : List Int} {n : Int} (h : ∀ x ∈ l, -1 < x ∧ x < n) : l = ints' (l.map Int.toNat) := by
  have e : ints' (l.map Int.toNat) = l.map fun x => ((x.toNat : Nat) : Int) := by simp [Function.comp_def]
  rw [e]
  conv => lhs; rw [← List.map_id l]
  refine List.map_congr_left fun x hx => ?_
  have := h x hx
  simp only [id]
  omega
theorem valid_to {N : List NodeA} {R : List Int} (h : validG N R = true) : N.length ≤ 4096 ∧ (∀ (p : Nat) (x : NodeA), N[p]? = some x → x.to = ints' (toN N p)) ∧ (∀ p q, q ∈ toN N p → q < N.length) ∧ R = ints' (R.map Int.toNat) ∧ (∀ q ∈ R.map Int.toNat, q < N.length) ∧ ∀ p, (toN N p).Pairwise (· < ·) := by
  simp only [validG, Bool.and_eq_true, decide_eq_true_eq] at h
  obtain ⟨h1, h2, h3⟩ := h
  have hx : ∀ (p : Nat) (x : NodeA), N[p]? = some x → (∀ y ∈ x.to, -1 < y ∧ y < N.length) ∧ x.to.Pairwise (· < ·) := fun p x hp => rises_ok _ _ _ (by omega) (nodes_ok N _ _ h3 x (List.mem_of_getElem? hp)).1
  have hR := rises_ok _ _ _ (by omega) h2
  refine ⟨h1, fun p x hp => ?_, fun p q hq => ?_, ints_toNat hR.1, fun q hq => ?_, fun p => ?_⟩
  · have : toN N p = x.to.map Int.toNat := by simp [toN, hp]
    rw [this]; exact ints_toNat (hx p x hp).1
  · unfold toN at hq
    cases hp : N[p]? with
    | none => rw [hp] at hq; simp at hq
    | some x =>
      rw [hp] at hq
      obtain ⟨y, hy, rfl⟩ := List.mem_map.1 (show q ∈ x.to.map Int.toNat from hq)
      have := (hx p x hp).1 y hy; omega
  · obtain ⟨y, hy, rfl⟩ := List.mem_map.1 hq
    have := hR.1 y hy; omega
  · unfold toN
    cases hp : N[p]? with
    | none => simp
    | some x =>
      show (x.to.map Int.toNat).Pairwise _
      rw [List.pairwise_map]
      refine (hx p x hp).2.imp_of_mem fun {a b} ha hb hab => ?_
      have := (hx p x hp).1 a ha; have := (hx p x hp).1 b hb; omega
def encC (l : List (Nat × Nat)) : List (List V) := l.reverse.map fun c => [V.int .i64 (c.1 : Int), V.int .i64 (c.2 : Int)]
theorem encC_cons {c : Nat × Nat} {l : List (Nat × Nat)} : encC (c :: l) = encC l ++ [[V.int .i64 (c.1 : Int), V.int .i64 (c.2 : Int)]] := by simp [encC]
theorem encC_len {l : List (Nat × Nat)} : (encC l).length = l.length := by simp [encC]
theorem encC_top {c : Nat × Nat} {l : List (Nat × Nat)} : (encC (c :: l))[l.length]? = some [V.int .i64 (c.1 : Int), V.int .i64 (c.2 : Int)] := by
  rw [encC_cons, List.getElem?_append_right (by rw [encC_len]; exact Nat.le_refl _), encC_len]
  simp
/-- a place of a growing slice is written. -/
theorem GS.store {B z n i j : Nat} {M : Mem} {u x : V} {L : List (List V)} {el : List V} (h : GS B M u z L) (hi : L[i]? = some el) (hl : j + n ≤ el.length) (hx : x.cells.length = n) (hc : x.cells.all V.isCell = true) :
    ∃ M' b y, blkOf u = some b ∧ M' = M.set b y ∧ storeV M n (atp u i j) x = some M' ∧ GS B M' u z (L.set i (splice el j x.cells)) := by
  rcases h with ⟨rfl, rfl⟩ | ⟨b, ex, els, h1, rfl, h3, h4⟩
  · simp at hi
  · have hlt := (List.getElem?_eq_some_iff.1 hi).1
    have hi2 : els[i]? = some el := by
      have h5 : (els.take L.length)[i]? = some el := by rw [h4]; exact hi
      rw [List.getElem?_take, if_pos hlt] at h5
      exact h5
    have hbl := (List.getElem?_eq_some_iff.1 h3).1
    refine ⟨_, b, _, rfl, rfl, store_own1 h3 hi2 hl hx hc, .inr ⟨b, ex, els.set i (splice el j x.cells), h1, by simp, List.getElem?_set_self hbl, ?_⟩⟩
    rw [List.length_set, List.take_set, h4]
/-- Tarjan's state, with its calls. -/
structure TC (m : Mem) (B : Nat) (M : Mem) (nv rv : V) (n : Nat) (s : TS) (sv cv : V) : Prop where
  tm : TM B M nv rv n s sv
  gs : GS (B + 6) M cv 2 (encC s.calls)
  ap : ∀ c, blkOf cv = some c → blkOf sv ≠ some c
  gr : Grow m M
theorem Grow.keep' {m0 M M' : Mem} (hg : Grow m0 M) (h : ∀ (c : Nat) y, c < m0.length → M[c]? = some y → M'[c]? = some y) : Grow m0 M' := by
  refine ⟨M'.drop m0.length, ?_⟩
  have : M'.take m0.length = m0 := by
    apply List.ext_getElem?
    intro i
    by_cases hi : i < m0.length
    · rw [List.getElem?_take, if_pos hi]
      have h0 := List.getElem?_eq_getElem hi
      rw [h0]
      exact h i _ hi (hg.get h0)
    · rw [List.getElem?_eq_none (by simp; omega), List.getElem?_eq_none (by omega)]
  conv => lhs; rw [← List.take_append_drop m0.length M', this]
theorem nodup_le : ∀ (n : Nat) (l : List Nat), l.Nodup → (∀ x ∈ l, x < n) → l.length ≤ n
  | 0, l, _, h => by
    cases l with
    | nil => simp
    | cons a l => have := h a (by simp); omega
  | n + 1, l, hn, h => by
    by_cases hm : n ∈ l
    · have h1 := nodup_le n (l.erase n) (hn.erase n) (fun x hx => by
        have h2 := (hn.mem_erase_iff).1 hx
        have := h x h2.2
        omega)
      rw [List.length_erase_of_mem hm] at h1
      omega
    · have := nodup_le n l hn (fun x hx => by
        have h2 := h x hx
        have : x ≠ n := fun e => hm (e ▸ hx)
        omega)
      omega
theorem Inv.stack_le {to : Nat → List Nat} {n : Nat} {s : TS} (h : Inv to n s) : s.stack.Nodup ∧ s.stack.length ≤ n := by
  have hn : s.stack.Nodup := h.sorted.imp fun {a b} hab e => by rw [e] at hab; omega
  exact ⟨hn, nodup_le n _ hn fun x hx => h.bnd x (h.seen x hx)⟩
theorem Inv.calls_le {to : Nat → List Nat} {n : Nat} {s : TS} (h : Inv to n s) : s.calls.length ≤ n := by
  have hn : (s.calls.map (·.1)).Nodup := by
    unfold List.Nodup
    rw [List.pairwise_map]
    exact h.gsort.imp fun {a b} hab e => by rw [e] at hab; omega
  have := nodup_le n _ hn fun x hx => by
    obtain ⟨c, hc, rfl⟩ := List.mem_map.1 hx
    exact h.bnd _ (h.seen _ (h.gray c hc))
  simpa using this
/-- how many nodes are not seen. -/
def un (n : Nat) (s : TS) : Nat := ((List.range n).map fun p => if s.ix p = 0 then 1 else 0).sum
theorem un_enter {n : Nat} {s : TS} {q : Nat} (hq : q < n) (h0 : s.ix q = 0) (s' : TS) (e : s'.ix = upd s.ix q (s.next + 1)) : un n s' + 1 = un n s := by
  have hs := sum_upd (f := fun p => if s.ix p = 0 then 1 else 0) (g := fun p => if upd s.ix q (s.next + 1) p = 0 then 1 else 0) (q := q) (List.range n) List.nodup_range (by simpa using hq) (fun x _ hx => by simp only [upd_ne hx])
  simp only [upd_self, h0, if_true] at hs
  rw [if_neg (by omega)] at hs
  unfold un
  rw [e]
  omega
theorem TM.congr {B n : Nat} {M : Mem} {nv rv sv : V} {s s' : TS} (h : TM B M nv rv n s sv) (e1 : s'.ix = s.ix) (e2 : s'.low = s.low) (e3 : s'.on = s.on) (e4 : s'.parts = s.parts) (e5 : s'.stack = s.stack) (e6 : s'.next = s.next) : TM B M nv rv n s' sv :=
  ⟨by rw [e6]; exact h.T, h.N, by rw [e1]; exact h.I, by rw [e2]; exact h.L, by rw [e3]; exact h.O, by rw [e4]; exact h.P, by rw [e5]; exact h.St⟩
/-- a node is left: the whole of it. -/
def popT (s : TS) (c : Nat) (rest : List (Nat × Nat)) (A D : List Nat) (least : Nat) : TS := if s.low c = s.ix c then popPart s c rest A (c :: D) least else popKeep s c rest
theorem popT_inv {to : Nat → List Nat} {n : Nat} {s : TS} (h : Inv to n s) {c i least : Nat} {rest : List (Nat × Nat)} {A D : List Nat} (hc : s.calls = (c, i) :: rest) (hi : i = (to c).length) (hst : s.stack = A ++ c :: D) (hl1 : least ∈ c :: D) (hl2 : ∀ q, q ∈ c :: D → least ≤ q) : Inv to n (popT s c rest A D least) ∧ (popT s c rest A D least).calls = rest ∧ (popT s c rest A D least).ix = s.ix ∧ (popT s c rest A D least).next = s.next := by
  unfold popT
  split
  · rename_i hlow
    exact ⟨inv_popPart h hc hi hlow hst hl1 hl2, rfl, rfl, rfl⟩
  · rename_i hlow
    obtain ⟨_, _, _, _, h1⟩ := inv_popKeep h hc hi hlow
    exact ⟨h1, rfl, rfl, rfl⟩
theorem popT_tm {B n : Nat} {M : Mem} {nv rv sv : V} {s : TS} {c least : Nat} {rest : List (Nat × Nat)} {A D : List Nat} (h : TM B M nv rv n { leaveT s c A D least with low := lowUp s.low c rest } sv) : TM B M nv rv n (popT s c rest A D least) sv := by
  unfold popT
  unfold leaveT at h
  split
  · rename_i hlow
    rw [if_pos hlow] at h
    exact h.congr rfl rfl rfl rfl rfl rfl
  · rename_i hlow
    rw [if_neg hlow] at h
    exact h.congr rfl rfl rfl rfl rfl rfl
theorem leaveT_low {s : TS} {c least : Nat} {A D : List Nat} : (leaveT s c A D least).low = s.low := by unfold leaveT; split <;> rfl
theorem visit_loop {m M0 : Mem} {B : Nat} {nv rv : V} {N : List NodeA} {R : List Int} {s0 : TS} {sv0 cv0 : V} {fr0 : Frame} {Q : AExit → Frame → Mem → Prop} (hm : m.length ≤ B) (hG : Gr m nv rv N R) (hf : Fits N R) (hval : validG N R = true) (f0 : fr0 0 = .ptr (B + 5) 0 0) (f4 : fr0 4 = cv0) (hTC : TC m B M0 nv rv N.length s0 sv0 cv0) (hI : Inv (toN N) N.length s0) (hun : s0.next + un N.length s0 ≤ N.length)
    (hQ : ∀ fr M s sv, TM B M nv rv N.length s sv → Inv (toN N) N.length s → s.calls = [] → (∀ p, s0.ix p ≠ 0 → s.ix p ≠ 0) → s.next + un N.length s ≤ N.length → Grow m M → Q .normal fr M) :
    W S (.block 0 (.loop graph_tarjan_visit_l0)) fr0 M0 Q := by
  obtain ⟨hn, hto, hlt, _, _, _⟩ := valid_to hval
  generalize hnn : N.length = n at *
  simp (maxDischargeDepth := 30) only [amL, args0, Nat.reduceEqDiff, reduceCtorEq, ↓reduceIte, Nat.reduceAdd, resultsA, results1, Int.reduceNeg, splice, Nat.reduceLeDiff, part, fillA, fillE, Nat.reduceLT]
  let I := fun (k : Nat) (fr : Frame) (M : Mem) => ∃ s sv cv, k = mu (toN N) n s ∧ fr 0 = .ptr (B + 5) 0 0 ∧ fr 4 = cv ∧ TC m B M nv rv n s sv cv ∧ Inv (toN N) n s ∧ (∀ p, s0.ix p ≠ 0 → s.ix p ≠ 0) ∧ s.next + un n s ≤ n
  refine W_loop I ?_ (mu (toN N) n s0) ⟨s0, sv0, cv0, rfl, f0, f4, hTC, hI, fun _ h => h, hun⟩
  rintro k fr M ⟨s, sv, cv, rfl, f0, f4, hTC, hI, hmono, hun⟩
  unfold graph_tarjan_visit_l0
  have hcl := hTC.gs.sl.len
  rw [encC_len] at hcl
  cases hcs : s.calls with
  | nil =>
    rw [hcs, List.length_nil] at hcl
    have c0 : ¬ (0 : Int) < ((0 : Nat) : Int) := by simp
    simp (maxDischargeDepth := 30) only [f0, f4, hcl, c0, amL, args0, Nat.reduceEqDiff, reduceCtorEq, ↓reduceIte, Nat.reduceAdd, resultsA, results1, Int.reduceNeg, splice, Nat.reduceLeDiff, part, fillA, fillE, Nat.reduceLT]
    exact hQ _ _ s sv hTC.tm hI hcs hmono hun hTC.gr
  | cons top rest =>
    obtain ⟨c, i⟩ := top
    rw [hcs, List.length_cons] at hcl
    have hgs := hTC.gs
    rw [hcs] at hgs
    have c0 : (0 : Int) < ((rest.length + 1 : Nat) : Int) := by omega
    have hrl : rest.length + 1 ≤ n := by have := hI.calls_le; rw [hcs] at this; exact this
    have w0 : IntKind.i64.wrap (((rest.length + 1 : Nat) : Int) - 1) = (rest.length : Int) := by rw [wrap_i64] <;> omega
    have ixc := hgs.sl.index (ki := .i64) (n := rest.length) (by omega) (by rw [encC_len]; simp; omega)
    have ldc := fun o k => hgs.sl.load (o := o) (k := k) (encC_top (c := (c, i)) (l := rest))
    simp only [Int.toNat_natCast] at ixc
    have ldT := fun j k => load_at0 (k := k) (j := j) hTC.tm.T
    have ldN := fun j k => load_at0 (k := k) (j := j) hTC.tm.N
    have hcn : c < n := hI.bnd c (hI.seen c (hI.gray (c, i) (by rw [hcs]; simp)))
    obtain ⟨nd, hnd⟩ : ∃ nd, N[c]? = some nd := ⟨_, List.getElem?_eq_getElem (by omega)⟩
    obtain ⟨_, els, hne, hel, hnds⟩ := hG.grow hTC.gr
    obtain ⟨tv, hte, htv⟩ := hnds c nd hnd
    rw [hto c nd hnd] at htv
    have ixn := hne.index (ki := .i64) (n := c) (by omega) (by omega)
    have ldn := fun o k => hne.load (o := o) (k := k) hte
    simp only [Int.toNat_natCast] at ixn
    have hcellp : ∀ o, asPtr 0 (atp cv rest.length o) = some (atp cv rest.length o) := fun o => by rw [asPtr_atp]; rfl
    have r0 : List.replicate 0 Blk.dead = [] := rfl
    have htl := htv.len
    have htl2 : (i64s (ints' (toN N c))).length = (toN N c).length := by simp
    rw [htl2] at htl
    obtain ⟨hil, hseen⟩ := hI.edge (c, i) (by rw [hcs]; simp)
    have hil : i ≤ (toN N c).length := hil
    by_cases hdone : i = (toN N c).length
    · have hdone' : ((i : Int) = ((toN N c).length : Int)) = True := eq_true (by omega)
      simp (maxDischargeDepth := 30) only [f0, f4, hcl, c0, w0, ixc, ldc, ldT, ldN, r0, List.append_nil, hcellp, ixn, ldn, htl, hdone', amL, args0, Nat.reduceEqDiff, reduceCtorEq, ↓reduceIte, Nat.reduceAdd, resultsA, results1, Int.reduceNeg, splice, Nat.reduceLeDiff, part, fillA, fillE, Nat.reduceLT]
      obtain ⟨A, D, hst, hcA⟩ := top_split hI hcs
      obtain ⟨hsnd, hsl⟩ := hI.stack_le
      refine (leave_spec hTC.tm hcn hn hst hcA (fun q hq => hI.bnd q (hI.seen q hq)) hsl).mono ?_
      rintro _ M1 ⟨sv1, least, hl1, hl2, h1, hsb, hka, hM1⟩
      have hgs1 : GS (B + 6) M1 cv 2 (encC ((c, i) :: rest)) := hgs.keep fun x y hx hy => hka x y (.inr (hgs.blk hx).1) hy
      have hg1 : Grow m M1 := Grow.keep' hTC.gr fun x y hx hy => hka x y (.inl (by omega)) hy
      obtain ⟨cv1, hc1, hc2, hc3⟩ := hgs1.cut (k := rest.length) (by rw [encC_len]; simp)
      have htk : (encC ((c, i) :: rest)).take rest.length = encC rest := by rw [encC_cons, List.take_left' encC_len]
      rw [htk] at hc2
      have hzc : zOk cv 2 = true := hgs1.sl.2
      have hcl1 : asLen cv1 = some (.int .i64 (rest.length : Nat)) := by rw [hc2.sl.len, encC_len]
      have hap : ∀ x, blkOf cv1 = some x → blkOf sv1 ≠ some x := fun x hx => by rw [hsb]; exact hTC.ap x (by rw [← hc3]; exact hx)
      obtain ⟨p1, p2, p3, p4⟩ := popT_inv hI hcs hdone hst hl1 hl2
      have fin : ∀ (fr' : Frame) (M' : Mem), fr' 0 = .ptr (B + 5) 0 0 → fr' 4 = cv1 → TC m B M' nv rv n (popT s c rest A D least) sv1 cv1 → ∃ j, j < mu (toN N) n s ∧ I j fr' M' := fun fr' M' g0 g4 hTC' => ⟨_, mu_pop hcs (popT s c rest A D least) p2 p3, _, sv1, cv1, rfl, g0, g4, hTC', p1, by rw [p3]; exact hmono, by unfold un; rw [p3, p4]; exact hun⟩
      cases hrest : rest with
      | nil =>
        rw [hrest] at hcl1 hcl w0 hc1 hc2 fin
        have cz : ¬ (0 : Int) < ((([] : List (Nat × Nat)).length : Nat) : Int) := by simp
        have w00 : IntKind.i64.wrap (((0 + 1 : Nat) : Int) - 1) = ((([] : List (Nat × Nat)).length : Nat) : Int) := w0
        simp only [List.length_nil] at hcl1 cz hc1 w00 hcl
        simp (maxDischargeDepth := 30) only [aft_mk, f0, f4, hcl, w00, Option.map_none, hzc, hc1, hcl1, cz, amL, args0, Nat.reduceEqDiff, reduceCtorEq, ↓reduceIte, Nat.reduceAdd, resultsA, results1, Int.reduceNeg, splice, Nat.reduceLeDiff, part, fillA, fillE, Nat.reduceLT]
        refine fin _ _ (by simp (maxDischargeDepth := 30) only [f0, amL, args0, Nat.reduceEqDiff, reduceCtorEq, ↓reduceIte, Nat.reduceAdd, resultsA, results1, Int.reduceNeg, splice, Nat.reduceLeDiff, part, fillA, fillE, Nat.reduceLT]) (by simp (maxDischargeDepth := 30) only [amL, args0, Nat.reduceEqDiff, reduceCtorEq, ↓reduceIte, Nat.reduceAdd, resultsA, results1, Int.reduceNeg, splice, Nat.reduceLeDiff, part, fillA, fillE, Nat.reduceLT]) ⟨popT_tm ?_, ?_, hap, hg1⟩
        · refine h1.congr rfl ?_ rfl rfl rfl rfl
          rw [leaveT_low]; rfl
        · have e : (popT s c [] A D least).calls = [] := by rw [hrest] at p2; exact p2
          rw [e]; exact hc2
      | cons ub rest' =>
        obtain ⟨u, j⟩ := ub
        rw [hrest, List.length_cons] at hcl1 hc1
        rw [hrest, List.length_cons] at w0 hcl
        rw [hrest] at hc2 fin p2 hcs
        have cz : (0 : Int) < ((rest'.length + 1 : Nat) : Int) := by omega
        have wz : IntKind.i64.wrap (((rest'.length + 1 : Nat) : Int) - 1) = (rest'.length : Int) := by rw [hrest, List.length_cons] at hrl; rw [wrap_i64] <;> omega
        have hun1 : u < n := hI.bnd u (hI.seen u (hI.gray (u, j) (by rw [hcs]; simp)))
        have ixu := hc2.sl.index (ki := .i64) (n := rest'.length) (by omega) (by rw [encC_len]; simp; omega)
        have ldu := fun o k => hc2.sl.load (o := o) (k := k) (encC_top (c := (u, j)) (l := rest'))
        have ldT1 := fun j k => load_at0 (k := k) (j := j) h1.T
        have ixL := h1.slL.index (ki := .i64) (n := u) (by omega) (by rw [natF_len]; omega)
        have ldL := fun o k => h1.slL.load (o := o) (k := k) (natF_get hun1)
        have ixLc := h1.slL.index (ki := .i64) (n := c) (by omega) (by rw [natF_len]; omega)
        have ldLc := fun o k => h1.slL.load (o := o) (k := k) (natF_get hcn)
        rw [leaveT_low] at ldL ldLc
        have hmn : (if ((s.low c : Nat) : Int) < (s.low u : Nat) then ((s.low c : Nat) : Int) else (s.low u : Nat)) = ((min (s.low u) (s.low c) : Nat) : Int) := by split <;> omega
        have stL := store_own (n := 1) (len := n) (cap := n) (z := 1) (ex := true) (x := .int .i64 ((min (s.low u) (s.low c) : Nat) : Int)) h1.L (natF_get hun1) rfl rfl rfl
        simp only [Int.toNat_natCast, V.cells, natF_set, leaveT_low] at ixu ixL ixLc stL
        have h2 := h1.setL (f := lowUp s.low c ((u, j) :: rest'))
        have e2 : lowUp s.low c ((u, j) :: rest') = upd s.low u (min (s.low u) (s.low c)) := rfl
        simp (maxDischargeDepth := 30) only [aft_mk, f0, f4, hcl, w0, Option.map_none, hzc, hc1, hcl1, cz, wz, ixu, ldu, ldT1, ixL, ldL, ixLc, ldLc, hmn, stL, r0, List.append_nil, amL, args0, Nat.reduceEqDiff, reduceCtorEq, ↓reduceIte, Nat.reduceAdd, resultsA, results1, Int.reduceNeg, splice, Nat.reduceLeDiff, part, fillA, fillE, Nat.reduceLT]
        refine fin _ _ (by simp (maxDischargeDepth := 30) only [f0, amL, args0, Nat.reduceEqDiff, reduceCtorEq, ↓reduceIte, Nat.reduceAdd, resultsA, results1, Int.reduceNeg, splice, Nat.reduceLeDiff, part, fillA, fillE, Nat.reduceLT]) (by simp (maxDischargeDepth := 30) only [amL, args0, Nat.reduceEqDiff, reduceCtorEq, ↓reduceIte, Nat.reduceAdd, resultsA, results1, Int.reduceNeg, splice, Nat.reduceLeDiff, part, fillA, fillE, Nat.reduceLT]) ⟨popT_tm ?_, ?_, hap, ?_⟩
        · rw [← e2]; exact h2
        · have e : (popT s c ((u, j) :: rest') A D least).calls = (u, j) :: rest' := p2
          rw [e]
          exact hc2.keep fun x y hx hy => set_get (by have := (hc2.blk hx).1; omega) hy
        · exact hg1.set (by omega) _
    · have hdone' : ¬ (i : Int) = ((toN N c).length : Int) := by omega
      obtain ⟨q, hq⟩ : ∃ q, (toN N c)[i]? = some q := ⟨_, List.getElem?_eq_getElem (by omega)⟩
      have hqn : q < n := hlt c q (List.mem_of_getElem? hq)
      have ixt := htv.index (ki := .i64) (n := i) (by omega) (by rw [htl2]; omega)
      have ldt := fun o k => htv.load (o := o) (k := k) (i := i) (el := [.int .i64 (q : Int)]) (by simp [hq])
      have hfit : (toN N c).length < 2 ^ 60 := by
        have h1 := hf.2.2 nd (List.mem_of_getElem? hnd)
        rw [hto c nd hnd] at h1
        simpa using h1
      have w1 : IntKind.i64.wrap ((i : Int) + 1) = ((i + 1 : Nat) : Int) := by rw [wrap_i64] <;> omega
      obtain ⟨M1, b1, y1, hb1, hM1, st1, hgs1⟩ := hgs.store (n := 1) (j := 1) (x := .int .i64 ((i + 1 : Nat) : Int)) (encC_top (c := (c, i)) (l := rest)) (by simp) rfl rfl
      have e1 : (encC ((c, i) :: rest)).set rest.length (splice [V.int .i64 (c : Int), V.int .i64 (i : Int)] 1 (V.int .i64 ((i + 1 : Nat) : Int)).cells) = encC ((c, i + 1) :: rest) := by
        rw [encC_cons, encC_cons, List.set_append_right _ _ (by rw [encC_len]; exact Nat.le_refl _), encC_len, Nat.sub_self]
        rfl
      rw [e1] at hgs1
      have hne1 := hTC.ap b1 hb1
      have hbB := (hgs.blk hb1).1
      have h1 : TM B M1 nv rv n s sv := by rw [hM1]; exact hTC.tm.other hbB hne1
      have hg1 : Grow m M1 := by rw [hM1]; exact hTC.gr.set (by omega) _
      have hM1l : M1.length = M.length := by rw [hM1]; simp
      have ldT1 := fun j k => load_at0 (k := k) (j := j) h1.T
      have ixI := h1.slI.index (ki := .i64) (n := q) (by omega) (by rw [natF_len]; omega)
      have ldI := fun o k => h1.slI.load (o := o) (k := k) (natF_get hqn)
      simp only [Int.toNat_natCast] at ixt ixI
      obtain ⟨hsnd, hsl⟩ := hI.stack_le
      by_cases h0 : s.ix q = 0
      · have h0' : (((s.ix q : Nat) : Int) = 0) = True := eq_true (by omega)
        have hqs : q ∉ s.stack := fun hm => hI.seen q hm h0
        have hsl2 : s.stack.length < n := by
          have := nodup_le n (q :: s.stack) (List.nodup_cons.2 ⟨hqs, hsnd⟩) (fun x hx => by
            rcases List.mem_cons.1 hx with rfl | hx
            · exact hqn
            · exact hI.bnd x (hI.seen x hx))
          rw [List.length_cons] at this
          omega
        have hue := un_enter hqn h0 (enterT (nextEdge s c i rest) q) rfl
        have hnext : s.next < n := by omega
        simp (maxDischargeDepth := 30) only [f0, f4, hcl, c0, w0, ixc, ldc, ldT, ldN, r0, List.append_nil, hcellp, ixn, ldn, htl, hdone', ixt, ldt, w1, st1, ldT1, ixI, ldI, h0', amL, args0, Nat.reduceEqDiff, reduceCtorEq, ↓reduceIte, Nat.reduceAdd, resultsA, results1, Int.reduceNeg, splice, Nat.reduceLeDiff, part, fillA, fillE, Nat.reduceLT]
        refine (enter_spec h1 hqn hn hnext hsl2).mono ?_
        rintro _ M2 ⟨rfl, sv2, h2, hb2, hk2, hlen2⟩
        have hgs2 : GS (B + 6) M2 cv 2 (encC ((c, i + 1) :: rest)) := hgs1.keep fun x y hx hy => hk2 x y (.inr ⟨(hgs1.blk hx).1, hTC.ap x hx⟩) hy
        have hg2 : Grow m M2 := Grow.keep' hg1 fun x y hx hy => hk2 x y (.inl (by omega)) hy
        have hM2B := h2.len
        obtain ⟨cv3, M3, p1, p2, p3, p4, p5⟩ := (hgs2.app (g := [Blk.cells true [[V.int .i64 (q : Int), V.int .i64 0]]])).push (T := M2.length) (own := true) (x := [V.int .i64 (q : Int), V.int .i64 0]) (zero := [.int .i64 0, .int .i64 0]) (bytes := 16) rfl (by simp) (by rw [encC_len]; simp [roomy]; omega) (by simp; omega)
        have hcvb : ∀ x, blkOf cv = some x → x < M1.length := fun x hx => (hgs1.blk hx).2
        have h3 : TM B M3 nv rv n { enterT s q with calls := s.calls } sv2 := h2.keep fun x y hx hy => by
          refine p3 x y (fun e => ?_) (getElem?_grow hy)
          rcases hx with hx | hx
          · have := (hgs1.blk e).1; omega
          · rcases hb2 with e2 | ⟨z, hz1, e2⟩
            · rw [e2] at hx; exact hTC.ap x e hx
            · rw [e2] at hx
              have := hcvb x e
              simp only [Option.some.injEq] at hx
              omega
        have hg3 : Grow m M3 := Grow.keep' hg2 fun x y hx hy => p3 x y (fun e => by have := (hgs1.blk e).1; omega) (getElem?_grow hy)
        have hap3 : ∀ x, blkOf cv3 = some x → blkOf sv2 ≠ some x := by
          intro x hx e
          have hsx := (h2.St.blk e).2
          rcases p4 with e2 | e2
          · rw [e2] at hx
            rcases hb2 with e3 | ⟨z, hz1, e3⟩
            · rw [e3] at e; exact hTC.ap x hx e
            · rw [e3] at e
              have := hcvb x hx
              simp only [Option.some.injEq] at e
              omega
          · rw [e2] at hx
            simp only [Option.some.injEq, List.length_append, List.length_singleton] at hx
            omega
        simp (maxDischargeDepth := 30) only [aft_mk, f0, f4, amL, args0, Nat.reduceEqDiff, reduceCtorEq, ↓reduceIte, Nat.reduceAdd, resultsA, results1, Int.reduceNeg, splice, Nat.reduceLeDiff, part, fillA, fillE, Nat.reduceLT]
        refine ⟨_, _, p1, ?_⟩
        refine ⟨_, mu_new hcs hq hqn h0, enterT (nextEdge s c i rest) q, sv2, cv3, rfl, ?_, ?_, ⟨h3.congr rfl rfl rfl rfl rfl rfl, ?_, hap3, hg3⟩, inv_new hI hcs hq hqn h0, ?_, ?_⟩
        · simp (maxDischargeDepth := 30) only [f0, amL, args0, Nat.reduceEqDiff, reduceCtorEq, ↓reduceIte, Nat.reduceAdd, resultsA, results1, Int.reduceNeg, splice, Nat.reduceLeDiff, part, fillA, fillE, Nat.reduceLT]
        · simp (maxDischargeDepth := 30) only [amL, args0, Nat.reduceEqDiff, reduceCtorEq, ↓reduceIte, Nat.reduceAdd, resultsA, results1, Int.reduceNeg, splice, Nat.reduceLeDiff, part, fillA, fillE, Nat.reduceLT]
        · have : (enterT (nextEdge s c i rest) q).calls = (q, 0) :: (c, i + 1) :: rest := rfl
          rw [this, encC_cons]; exact p2
        · intro p hp
          show upd s.ix q (s.next + 1) p ≠ 0
          by_cases e : p = q
          · rw [e, upd_self]; omega
          · rw [upd_ne e]; exact hmono p hp
        · show s.next + 1 + _ ≤ n
          omega
      · have h0' : ¬ ((s.ix q : Nat) : Int) = 0 := by omega
        have ixO := h1.slO.index (ki := .i64) (n := q) (by omega) (by rw [boolF_len]; omega)
        have ldO := fun o k => h1.slO.load (o := o) (k := k) (boolF_get hqn)
        simp only [Int.toNat_natCast] at ixO
        have htopm : (c, i) ∈ s.calls := by rw [hcs]; simp
        cases hon : s.on q with
        | true =>
          rw [hon] at ldO
          have hqs : q ∈ s.stack := (hI.on_iff q).1 hon
          have ixc1 := hgs1.sl.index (ki := .i64) (n := rest.length) (by omega) (by rw [encC_len]; simp; omega)
          have ldc1 := fun o k => hgs1.sl.load (o := o) (k := k) (encC_top (c := (c, i + 1)) (l := rest))
          have ixL := h1.slL.index (ki := .i64) (n := c) (by omega) (by rw [natF_len]; omega)
          have ldL := fun o k => h1.slL.load (o := o) (k := k) (natF_get hcn)
          have hmn : (if ((s.ix q : Nat) : Int) < (s.low c : Nat) then ((s.ix q : Nat) : Int) else (s.low c : Nat)) = ((min (s.low c) (s.ix q) : Nat) : Int) := by split <;> omega
          have stL := store_own (n := 1) (len := n) (cap := n) (z := 1) (ex := true) (x := .int .i64 ((min (s.low c) (s.ix q) : Nat) : Int)) h1.L (natF_get hcn) rfl rfl rfl
          simp only [Int.toNat_natCast, V.cells, natF_set] at ixL stL
          have h2 := h1.setL (f := upd s.low c (min (s.low c) (s.ix q)))
          have hinv := inv_skip hI hcs hq h0 (upd s.low c (min (s.low c) (s.ix q))) (fun x hx => upd_ne hx) (by rw [upd_self]; omega) (by
            rw [upd_self]
            by_cases hle : s.low c ≤ s.ix q
            · rw [Nat.min_eq_left hle]; exact hI.low_is _ htopm
            · rw [Nat.min_eq_right (by omega)]; exact ⟨q, hqs, rfl, Rch.one (List.mem_of_getElem? hq)⟩) (fun _ => by rw [upd_self]; omega)
          simp (maxDischargeDepth := 30) only [f0, f4, hcl, c0, w0, ixc, ldc, ldT, ldN, r0, List.append_nil, hcellp, ixn, ldn, htl, hdone', ixt, ldt, w1, st1, ldT1, ixI, ldI, h0', ixO, ldO, ldc1, ixL, ldL, hmn, stL, amL, args0, Nat.reduceEqDiff, reduceCtorEq, ↓reduceIte, Nat.reduceAdd, resultsA, results1, Int.reduceNeg, splice, Nat.reduceLeDiff, part, fillA, fillE, Nat.reduceLT]
          refine ⟨_, mu_skip hcs hq { nextEdge s c i rest with low := upd s.low c (min (s.low c) (s.ix q)) } rfl rfl, _, sv, cv, rfl, ?_, ?_, ⟨h2.congr rfl rfl rfl rfl rfl rfl, ?_, hTC.ap, hg1.set (by omega) _⟩, hinv, hmono, hun⟩
          · simp (maxDischargeDepth := 30) only [f0, amL, args0, Nat.reduceEqDiff, reduceCtorEq, ↓reduceIte, Nat.reduceAdd, resultsA, results1, Int.reduceNeg, splice, Nat.reduceLeDiff, part, fillA, fillE, Nat.reduceLT]
          · simp (maxDischargeDepth := 30) only [f4, amL, args0, Nat.reduceEqDiff, reduceCtorEq, ↓reduceIte, Nat.reduceAdd, resultsA, results1, Int.reduceNeg, splice, Nat.reduceLeDiff, part, fillA, fillE, Nat.reduceLT]
          · exact hgs1.keep fun x y hx hy => set_get (by have := (hgs1.blk hx).1; omega) hy
        | false =>
          rw [hon] at ldO
          have hqs : q ∉ s.stack := fun hm => by rw [(hI.on_iff q).2 hm] at hon; cases hon
          have hinv := inv_skip hI hcs hq h0 s.low (fun _ _ => rfl) (Nat.le_refl _) (hI.low_is _ htopm) (fun hm => absurd hm hqs)
          simp (maxDischargeDepth := 30) only [f0, f4, hcl, c0, w0, ixc, ldc, ldT, ldN, r0, List.append_nil, hcellp, ixn, ldn, htl, hdone', ixt, ldt, w1, st1, ldT1, ixI, ldI, h0', ixO, ldO, amL, args0, Nat.reduceEqDiff, reduceCtorEq, ↓reduceIte, Nat.reduceAdd, resultsA, results1, Int.reduceNeg, splice, Nat.reduceLeDiff, part, fillA, fillE, Nat.reduceLT]
          refine ⟨_, mu_skip hcs hq { nextEdge s c i rest with low := s.low } rfl rfl, _, sv, cv, rfl, ?_, ?_, ⟨h1.congr rfl rfl rfl rfl rfl rfl, hgs1, hTC.ap, hg1⟩, hinv, hmono, hun⟩
          · simp (maxDischargeDepth := 30) only [f0, amL, args0, Nat.reduceEqDiff, reduceCtorEq, ↓reduceIte, Nat.reduceAdd, resultsA, results1, Int.reduceNeg, splice, Nat.reduceLeDiff, part, fillA, fillE, Nat.reduceLT]
          · simp (maxDischargeDepth := 30) only [f4, amL, args0, Nat.reduceEqDiff, reduceCtorEq, ↓reduceIte, Nat.reduceAdd, resultsA, results1, Int.reduceNeg, splice, Nat.reduceLeDiff, part, fillA, fillE, Nat.reduceLT]
end Go.AM.G
