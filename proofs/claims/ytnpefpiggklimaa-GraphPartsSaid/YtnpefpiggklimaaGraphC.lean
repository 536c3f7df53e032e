/- Part of the proof: contracts of functions of the given program on an abstract machine. -/
import Derived.Test.YtnpefpiggklimaaGraphB
set_option linter.unusedVariables false
set_option linter.unusedSimpArgs false
set_option maxRecDepth 100000
namespace Go.AM.G
open Go Go.AM
def blkOf : V → Option Nat
  | .slice b _ _ _ _ _ => some b
  | _ => none
/-- a slice that grows and shrinks at its end. -/
def GS (B : Nat) (M : Mem) (u : V) (z : Nat) (L : List (List V)) : Prop := (u = .nils ∧ L = []) ∨ ∃ b ex els, B ≤ b ∧ u = .slice b 0 L.length els.length ex z ∧ M[b]? = some (.cells true els) ∧ els.take L.length = L
theorem GS.sl {B z : Nat} {M : Mem} {u : V} {L : List (List V)} (h : GS B M u z L) : Sl M u z L := by
  rcases h with ⟨rfl, rfl⟩ | ⟨b, ex, els, _, rfl, h3, h4⟩
  · exact ⟨rfl, rfl⟩
  · have hl : L.length ≤ els.length := by
      have := congrArg List.length h4
      simp only [List.length_take] at this
      omega
    simp [Sl, elems, h3, zOk, hl, h4]
theorem GS.keep {B z : Nat} {M M' : Mem} {u : V} {L : List (List V)} (h : GS B M u z L) (hk : ∀ c y, blkOf u = some c → M[c]? = some y → M'[c]? = some y) : GS B M' u z L := by
  rcases h with h | ⟨b, ex, els, h1, rfl, h3, h4⟩
  · exact .inl h
  · exact .inr ⟨b, ex, els, h1, rfl, hk b _ rfl h3, h4⟩
theorem GS.blk {B z : Nat} {M : Mem} {u : V} {L : List (List V)} (h : GS B M u z L) {c : Nat} (hc : blkOf u = some c) : B ≤ c ∧ c < M.length := by
  rcases h with ⟨rfl, _⟩ | ⟨b, ex, els, h1, rfl, h3, h4⟩
  · cases hc
  · cases hc
    exact ⟨h1, (List.getElem?_eq_some_iff.1 h3).1⟩
theorem GS.app {B z : Nat} {M g : Mem} {u : V} {L : List (List V)} (h : GS B M u z L) : GS B (M ++ g) u z L := h.keep fun _ _ _ hy => getElem?_grow hy
/-- one more at the end. -/
theorem GS.push {B z : Nat} {M : Mem} {u : V} {T bytes : Nat} {own : Bool} {L : List (List V)} {x zero : List V} (h : GS B M u z L) (hz : zero.length = z) (hT : M[T]? = some (.cells own [x])) (hr : roomy (L.length + 1) bytes = true) (hB : B ≤ M.length) :
    ∃ u' M', appendV M zero bytes u (.slice T 0 1 1 true z) = some (u', M') ∧ GS B M' u' z (L ++ [x]) ∧ (∀ c y, blkOf u ≠ some c → M[c]? = some y → M'[c]? = some y) ∧ (blkOf u' = blkOf u ∨ blkOf u' = some M.length) ∧ M.length ≤ M'.length := by
  have he : elems M (.slice T 0 1 1 true z) = some [x] := by simp [elems, hT]
  subst hz
  rcases h with ⟨rfl, rfl⟩ | ⟨b, ex, els, h1, rfl, h3, h4⟩
  · refine ⟨.slice M.length 0 1 1 false zero.length, M ++ [.cells true [x]], ?_, .inr ⟨M.length, false, [x], hB, rfl, by simp, rfl⟩, fun c y _ hy => getElem?_grow hy, .inr rfl, by simp⟩
    have hr' : roomy 1 bytes = true := hr
    simp [appendV, he, zOk, hr']
  · have hbl := (List.getElem?_eq_some_iff.1 h3).1
    have hl : L.length ≤ els.length := by
      have := congrArg List.length h4
      simp only [List.length_take] at this
      omega
    by_cases hfit : L.length + 1 ≤ els.length
    · have hov : (over els L.length [x]).length = els.length := by simp [over]; omega
      refine ⟨.slice b 0 (L.length + 1) els.length ex zero.length, M.set b (.cells true (over els L.length [x])), ?_, .inr ⟨b, ex, over els L.length [x], h1, by simp [hov], List.getElem?_set_self hbl, ?_⟩, fun c y hc hy => ?_, .inl rfl, by simp⟩
      · simp [appendV, he, zOk, h3, hfit, hl]
      · unfold over
        rw [h4, List.length_append, List.length_singleton, ← List.append_assoc, List.take_left' (by simp)]
      · rw [List.getElem?_set_ne (fun e => hc (by rw [e]; rfl))]
        exact hy
    · have hle : els.length = L.length := by omega
      have hee : els = L := by rw [← h4, ← hle, List.take_length]
      subst hee
      cases ex with
      | true =>
        refine ⟨.slice M.length 0 (els.length + 1) (els.length + 1) false zero.length, M ++ [.cells true (els ++ [x])], ?_, .inr ⟨M.length, false, els ++ [x], hB, by simp, by simp, by rw [List.take_length]⟩, fun c y _ hy => getElem?_grow hy, .inr rfl, by simp⟩
        simp [appendV, he, zOk, h3, hr]
      | false =>
        refine ⟨.slice M.length 0 (els.length + 1) (els.length + 1) false zero.length, M.set b .dead ++ [.cells true (els ++ [x])], ?_, .inr ⟨M.length, false, els ++ [x], hB, by simp, ?_, by rw [List.take_length]⟩, fun c y hc hy => ?_, .inr rfl, by simp⟩
        · simp [appendV, he, zOk, h3, hr]
        · rw [List.getElem?_append_right (by simp)]; simp
        · refine getElem?_grow ?_
          rw [List.getElem?_set_ne (fun e => hc (by rw [e]; rfl))]
          exact hy
/-- its end is cut off. -/
theorem GS.cut {B z : Nat} {M : Mem} {u : V} {L : List (List V)} (h : GS B M u z L) {k : Nat} (hk : k ≤ L.length) : ∃ u', sliceV u none (some (.int .i64 k)) none = some u' ∧ GS B M u' z (L.take k) ∧ blkOf u' = blkOf u := by
  rcases h with ⟨rfl, rfl⟩ | ⟨b, ex, els, h1, rfl, h3, h4⟩
  · have : k = 0 := by simpa using hk
    subst this
    exact ⟨.nils, by simp [sliceV, bound], .inl ⟨rfl, rfl⟩, rfl⟩
  · have hl : L.length ≤ els.length := by
      have := congrArg List.length h4
      simp only [List.length_take] at this
      omega
    have e1 : k ≤ els.length := by omega
    refine ⟨.slice b 0 k els.length ex z, by simp [sliceV, bound, e1], .inr ⟨b, ex, els, h1, ?_, h3, ?_⟩, rfl⟩
    · simp [Nat.min_eq_left hk]
    · rw [List.length_take, Nat.min_eq_left hk]
      conv => rhs; rw [← h4]
      rw [List.take_take, Nat.min_eq_left hk]
/-- its end. -/
theorem GS.tail {B z : Nat} {M : Mem} {u : V} {L : List (List V)} (h : GS B M u z L) {k : Nat} (hk : k ≤ L.length) : ∃ u', sliceV u (some (.int .i64 k)) none none = some u' ∧ Sl M u' z (L.drop k) := by
  rcases h with ⟨rfl, rfl⟩ | ⟨b, ex, els, h1, rfl, h3, h4⟩
  · have : k = 0 := by simpa using hk
    subst this
    exact ⟨.nils, by simp [sliceV, bound], ⟨rfl, rfl⟩⟩
  · have hl : L.length ≤ els.length := by
      have := congrArg List.length h4
      simp only [List.length_take] at this
      omega
    refine ⟨.slice b k (L.length - k) (els.length - k) ex z, by simp [sliceV, bound, hk], ?_, by simp [zOk]⟩
    simp only [elems, h3]
    rw [if_pos (by omega)]
    conv => rhs; rw [← h4]
    rw [List.drop_take]
/-! ### rows that tell a function -/
def natF (n : Nat) (f : Nat → Nat) : List (List V) := (List.range n).map fun p => [.int .i64 (f p)]
def boolF (n : Nat) (f : Nat → Bool) : List (List V) := (List.range n).map fun p => [.bool (f p)]
abbrev nats (l : List Nat) : List (List V) := l.map fun p : Nat => [V.int .i64 (p : Int)]
theorem natF_len {n : Nat} {f : Nat → Nat} : (natF n f).length = n := by simp [natF]
theorem boolF_len {n : Nat} {f : Nat → Bool} : (boolF n f).length = n := by simp [boolF]
theorem natF_get {n p : Nat} {f : Nat → Nat} (h : p < n) : (natF n f)[p]? = some [.int .i64 (f p)] := by simp [natF, h]
theorem boolF_get {n p : Nat} {f : Nat → Bool} (h : p < n) : (boolF n f)[p]? = some [.bool (f p)] := by simp [boolF, h]
theorem natF_set {n p v : Nat} {f : Nat → Nat} : (natF n f).set p [.int .i64 v] = natF n (upd f p v) := by
  apply List.ext_getElem?
  intro i
  by_cases hi : i < n
  · by_cases e : p = i
    · subst e
      rw [List.getElem?_set_self (by rw [natF_len]; exact hi), natF_get hi, upd_self]
    · rw [List.getElem?_set_ne e, natF_get hi, natF_get hi, upd_ne (Ne.symm e)]
  · rw [List.getElem?_eq_none (by simp [natF_len]; omega), List.getElem?_eq_none (by simp [natF_len]; omega)]
theorem boolF_set {n p : Nat} {v : Bool} {f : Nat → Bool} : (boolF n f).set p [.bool v] = boolF n (upd f p v) := by
  apply List.ext_getElem?
  intro i
  by_cases hi : i < n
  · by_cases e : p = i
    · subst e
      rw [List.getElem?_set_self (by rw [boolF_len]; exact hi), boolF_get hi, upd_self]
    · rw [List.getElem?_set_ne e, boolF_get hi, boolF_get hi, upd_ne (Ne.symm e)]
  · rw [List.getElem?_eq_none (by simp [boolF_len]; omega), List.getElem?_eq_none (by simp [boolF_len]; omega)]
/-- Tarjan's state in the memory. -/
structure TM (B : Nat) (M : Mem) (nv rv : V) (n : Nat) (s : TS) (sv : V) : Prop where
  T : M[B + 5]? = some (.cells true [[.ptr B 0 0, .slice (B + 1) 0 n n true 1, .slice (B + 2) 0 n n true 1, sv, .slice (B + 3) 0 n n true 1, .slice (B + 4) 0 n n true 1, .int .i64 s.next]])
  N : M[B]? = some (.cells true [[nv, rv]])
  I : M[B + 1]? = some (.cells true (natF n s.ix))
  L : M[B + 2]? = some (.cells true (natF n s.low))
  O : M[B + 3]? = some (.cells true (boolF n s.on))
  P : M[B + 4]? = some (.cells true (natF n s.parts))
  St : GS (B + 6) M sv 1 (nats s.stack)
section
variable {B n : Nat} {M : Mem} {nv rv sv : V} {s : TS}
theorem TM.slI (h : TM B M nv rv n s sv) : Sl M (.slice (B + 1) 0 n n true 1) 1 (natF n s.ix) := by have := Sl.mk (cap := n) (ex := true) (z := 1) h.I; rwa [natF_len] at this
theorem TM.slL (h : TM B M nv rv n s sv) : Sl M (.slice (B + 2) 0 n n true 1) 1 (natF n s.low) := by have := Sl.mk (cap := n) (ex := true) (z := 1) h.L; rwa [natF_len] at this
theorem TM.slO (h : TM B M nv rv n s sv) : Sl M (.slice (B + 3) 0 n n true 1) 1 (boolF n s.on) := by have := Sl.mk (cap := n) (ex := true) (z := 1) h.O; rwa [boolF_len] at this
theorem TM.slP (h : TM B M nv rv n s sv) : Sl M (.slice (B + 4) 0 n n true 1) 1 (natF n s.parts) := by have := Sl.mk (cap := n) (ex := true) (z := 1) h.P; rwa [natF_len] at this
theorem TM.keep {M' : Mem} (h : TM B M nv rv n s sv) (hk : ∀ c y, (B ≤ c ∧ c < B + 6 ∨ blkOf sv = some c) → M[c]? = some y → M'[c]? = some y) : TM B M' nv rv n s sv :=
  ⟨hk _ _ (.inl ⟨by omega, by omega⟩) h.T, hk _ _ (.inl ⟨by omega, by omega⟩) h.N, hk _ _ (.inl ⟨by omega, by omega⟩) h.I, hk _ _ (.inl ⟨by omega, by omega⟩) h.L, hk _ _ (.inl ⟨by omega, by omega⟩) h.O, hk _ _ (.inl ⟨by omega, by omega⟩) h.P, h.St.keep fun c y hc hy => hk c y (.inr hc) hy⟩
theorem TM.app {g : Mem} (h : TM B M nv rv n s sv) : TM B (M ++ g) nv rv n s sv := h.keep fun _ _ _ hy => getElem?_grow hy
theorem TM.len (h : TM B M nv rv n s sv) : B + 6 ≤ M.length := by have := (List.getElem?_eq_some_iff.1 h.T).1; omega
theorem TM.ne (h : TM B M nv rv n s sv) {c : Nat} (hc : c < B + 6) : blkOf sv ≠ some c := fun e => by have := (h.St.blk e).1; omega
/-- a block of the state is written. -/
theorem TM.other {b : Nat} {x : Blk} (h : TM B M nv rv n s sv) (hb : B + 6 ≤ b) (hne : blkOf sv ≠ some b) : TM B (M.set b x) nv rv n s sv := h.keep fun c y hc hy => by
  rw [List.getElem?_set_ne]
  · exact hy
  · rintro rfl
    rcases hc with hc | hc
    · omega
    · exact hne hc
theorem set_get {b c : Nat} {x y : Blk} (hne : b ≠ c) (h : M[c]? = some y) : (M.set b x)[c]? = some y := by rw [List.getElem?_set_ne hne]; exact h
theorem set_self' {b : Nat} {x y : Blk} (h : M[b]? = some y) : (M.set b x)[b]? = some x := List.getElem?_set_self (List.getElem?_eq_some_iff.1 h).1
theorem TM.setI {f : Nat → Nat} (h : TM B M nv rv n s sv) : TM B (M.set (B + 1) (.cells true (natF n f))) nv rv n { s with ix := f } sv :=
  ⟨set_get (by omega) h.T, set_get (by omega) h.N, set_self' h.I, set_get (by omega) h.L, set_get (by omega) h.O, set_get (by omega) h.P, h.St.keep fun c y hc hy => set_get (by have := (h.St.blk hc).1; omega) hy⟩
theorem TM.setL {f : Nat → Nat} (h : TM B M nv rv n s sv) : TM B (M.set (B + 2) (.cells true (natF n f))) nv rv n { s with low := f } sv :=
  ⟨set_get (by omega) h.T, set_get (by omega) h.N, set_get (by omega) h.I, set_self' h.L, set_get (by omega) h.O, set_get (by omega) h.P, h.St.keep fun c y hc hy => set_get (by have := (h.St.blk hc).1; omega) hy⟩
theorem TM.setO {f : Nat → Bool} (h : TM B M nv rv n s sv) : TM B (M.set (B + 3) (.cells true (boolF n f))) nv rv n { s with on := f } sv :=
  ⟨set_get (by omega) h.T, set_get (by omega) h.N, set_get (by omega) h.I, set_get (by omega) h.L, set_self' h.O, set_get (by omega) h.P, h.St.keep fun c y hc hy => set_get (by have := (h.St.blk hc).1; omega) hy⟩
theorem TM.setP {f : Nat → Nat} (h : TM B M nv rv n s sv) : TM B (M.set (B + 4) (.cells true (natF n f))) nv rv n { s with parts := f } sv :=
  ⟨set_get (by omega) h.T, set_get (by omega) h.N, set_get (by omega) h.I, set_get (by omega) h.L, set_get (by omega) h.O, set_self' h.P, h.St.keep fun c y hc hy => set_get (by have := (h.St.blk hc).1; omega) hy⟩
theorem TM.setN {k : Nat} (h : TM B M nv rv n s sv) : TM B (M.set (B + 5) (.cells true [[.ptr B 0 0, .slice (B + 1) 0 n n true 1, .slice (B + 2) 0 n n true 1, sv, .slice (B + 3) 0 n n true 1, .slice (B + 4) 0 n n true 1, .int .i64 k]])) nv rv n { s with next := k } sv :=
  ⟨set_self' h.T, set_get (by omega) h.N, set_get (by omega) h.I, set_get (by omega) h.L, set_get (by omega) h.O, set_get (by omega) h.P, h.St.keep fun c y hc hy => set_get (by have := (h.St.blk hc).1; omega) hy⟩
/-- the stack's slice is written. -/
theorem TM.setS {sv' : V} {st : List Nat} (h : TM B M nv rv n s sv) (hs : GS (B + 6) M sv' 1 (nats st)) : TM B (M.set (B + 5) (.cells true [[.ptr B 0 0, .slice (B + 1) 0 n n true 1, .slice (B + 2) 0 n n true 1, sv', .slice (B + 3) 0 n n true 1, .slice (B + 4) 0 n n true 1, .int .i64 s.next]])) nv rv n { s with stack := st } sv' :=
  ⟨set_self' h.T, set_get (by omega) h.N, set_get (by omega) h.I, set_get (by omega) h.L, set_get (by omega) h.O, set_get (by omega) h.P, hs.keep fun c y hc hy => set_get (by have := (hs.blk hc).1; omega) hy⟩
end
/-- what a step on Tarjan's state leaves alone: all that is not its. -/
def Kept (B : Nat) (sv : V) (M M' : Mem) : Prop := ∀ c y, (c < B ∨ B + 6 ≤ c ∧ blkOf sv ≠ some c) → M[c]? = some y → M'[c]? = some y
theorem Kept.set {B b : Nat} {sv : V} {M M' : Mem} {x : Blk} (h : Kept B sv M M') (hb : B ≤ b ∧ b < B + 6) : Kept B sv M (M'.set b x) := fun c y hc hy => set_get (by omega) (h c y hc hy)
theorem Kept.app {B : Nat} {sv : V} {M M' g : Mem} (h : Kept B sv M M') : Kept B sv M (M' ++ g) := fun c y hc hy => getElem?_grow (h c y hc hy)
theorem enter_spec {B n : Nat} {M : Mem} {nv rv sv : V} {s : TS} {p : Nat} (h : TM B M nv rv n s sv) (hp : p < n) (hn : n ≤ 4096) (hnext : s.next < n) (hst : s.stack.length < n) :
    C S n_graph_tarjan_enter [.ptr (B + 5) 0 0, .int .i64 p] M (fun r M' => r = .agg [.int .i64 p, .int .i64 0] ∧ ∃ sv', TM B M' nv rv n { enterT s p with calls := s.calls } sv' ∧ (blkOf sv' = blkOf sv ∨ ∃ c, M.length ≤ c ∧ blkOf sv' = some c) ∧ Kept B sv M M' ∧ M.length ≤ M'.length) := by
  refine C_body rfl rfl rfl ?_
  unfold graph_tarjan_enter
  have h1 := h.app (g := [Blk.cells true [[V.int .i64 0, V.int .i64 0]]])
  have k1 : Kept B sv M (M ++ [Blk.cells true [[V.int .i64 0, V.int .i64 0]]]) := fun c y _ hy => getElem?_grow hy
  have r1 : (M ++ [Blk.cells true [[V.int .i64 0, V.int .i64 0]]])[M.length]? = some (.cells true [[V.int .i64 0, V.int .i64 0]]) := by simp
  have hML := h.len
  simp (maxDischargeDepth := 30) only [amL, args0, Nat.reduceEqDiff, reduceCtorEq, ↓reduceIte, Nat.reduceAdd, resultsA, results1, Int.reduceNeg, splice, Nat.reduceLeDiff, part, fillA, fillE, Nat.reduceLT]
  generalize M ++ [Blk.cells true [[V.int .i64 0, V.int .i64 0]]] = M1 at h1 k1 r1
  have w1 : IntKind.i64.wrap ((s.next : Int) + 1) = ((s.next + 1 : Nat) : Int) := by rw [wrap_i64] <;> omega
  have s1 := store_at0 (x := .int .i64 ((s.next + 1 : Nat) : Int)) (j := 6) (n := 1) h1.T rfl (by simp) rfl
  have e1 : splice [V.ptr B 0 0, .slice (B + 1) 0 n n true 1, .slice (B + 2) 0 n n true 1, sv, .slice (B + 3) 0 n n true 1, .slice (B + 4) 0 n n true 1, .int .i64 s.next] 6 (V.int .i64 ((s.next + 1 : Nat) : Int)).cells = [V.ptr B 0 0, .slice (B + 1) 0 n n true 1, .slice (B + 2) 0 n n true 1, sv, .slice (B + 3) 0 n n true 1, .slice (B + 4) 0 n n true 1, .int .i64 (s.next + 1 : Nat)] := rfl
  rw [e1] at s1
  have h2 := h1.setN (k := s.next + 1)
  have k2 := k1.set (b := B + 5) (x := .cells true [[V.ptr B 0 0, .slice (B + 1) 0 n n true 1, .slice (B + 2) 0 n n true 1, sv, .slice (B + 3) 0 n n true 1, .slice (B + 4) 0 n n true 1, .int .i64 (s.next + 1 : Nat)]]) ⟨by omega, by omega⟩
  have r2 := set_get (x := .cells true [[V.ptr B 0 0, .slice (B + 1) 0 n n true 1, .slice (B + 2) 0 n n true 1, sv, .slice (B + 3) 0 n n true 1, .slice (B + 4) 0 n n true 1, .int .i64 (s.next + 1 : Nat)]]) (b := B + 5) (by omega) r1
  simp (maxDischargeDepth := 30) only [load_at0 h1.T, w1, s1, amL, args0, Nat.reduceEqDiff, reduceCtorEq, ↓reduceIte, Nat.reduceAdd, resultsA, results1, Int.reduceNeg, splice, Nat.reduceLeDiff, part, fillA, fillE, Nat.reduceLT]
  generalize M1.set (B + 5) (.cells true [[V.ptr B 0 0, .slice (B + 1) 0 n n true 1, .slice (B + 2) 0 n n true 1, sv, .slice (B + 3) 0 n n true 1, .slice (B + 4) 0 n n true 1, .int .i64 (s.next + 1 : Nat)]]) = M2 at h2 k2 r2
  have ixI := h2.slI.index (ki := .i64) (n := p) (by omega) (by rw [natF_len]; omega)
  have ixL := h2.slL.index (ki := .i64) (n := p) (by omega) (by rw [natF_len]; omega)
  have stI := store_own (n := 1) (len := n) (cap := n) (z := 1) (ex := true) (x := .int .i64 ((s.next + 1 : Nat) : Int)) h2.I (natF_get hp) rfl rfl rfl
  have h3 := h2.setI (f := upd s.ix p (s.next + 1))
  have stL := store_own (n := 1) (len := n) (cap := n) (z := 1) (ex := true) (x := .int .i64 ((s.next + 1 : Nat) : Int)) h3.L (natF_get hp) rfl rfl rfl
  simp only [V.cells, natF_set, Int.toNat_natCast] at ixI ixL stI stL
  have h4 := h3.setL (f := upd s.low p (s.next + 1))
  have k4 := (k2.set (b := B + 1) (x := .cells true (natF n (upd s.ix p (s.next + 1)))) ⟨by omega, by omega⟩).set (b := B + 2) (x := .cells true (natF n (upd s.low p (s.next + 1)))) ⟨by omega, by omega⟩
  have r4 := set_get (x := .cells true (natF n (upd s.low p (s.next + 1)))) (b := B + 2) (by omega) (set_get (x := .cells true (natF n (upd s.ix p (s.next + 1)))) (b := B + 1) (by omega) r2)
  simp (maxDischargeDepth := 30) only [List.replicate_zero, load_at0 h2.T, ixI, ixL, stI, stL, amL, args0, Nat.reduceEqDiff, reduceCtorEq, ↓reduceIte, Nat.reduceAdd, resultsA, results1, Int.reduceNeg, splice, Nat.reduceLeDiff, part, fillA, fillE, Nat.reduceLT]
  generalize ((M2.set (B + 1) (.cells true (natF n (upd s.ix p (s.next + 1))))).set (B + 2) (.cells true (natF n (upd s.low p (s.next + 1))))) = M4 at h4 k4 r4
  have ld4 : ∀ g j k, loadV (M4 ++ g) k (.ptr (B + 5) 0 j) = part [V.ptr B 0 0, .slice (B + 1) 0 n n true 1, .slice (B + 2) 0 n n true 1, sv, .slice (B + 3) 0 n n true 1, .slice (B + 4) 0 n n true 1, .int .i64 (s.next + 1 : Nat)] j k := fun g j k => load_at0 (h4.app (g := g)).T
  have hlen4 := h4.len
  obtain ⟨sv', M5, p1, p2, p3, p4, p5⟩ := (h4.app (g := [Blk.cells true [[V.int .i64 p]]])).St.push (T := M4.length) (own := true) (x := [V.int .i64 p]) (zero := [.int .i64 0]) (bytes := 8) rfl (by simp) (by simp [roomy]; omega) (by simp; omega)
  have hb5 : ∀ c y, (B ≤ c ∧ c < B + 6) → M4[c]? = some y → M5[c]? = some y := fun c y hc hy => p3 c y (h4.ne (by omega)) (getElem?_grow hy)
  have k5 : Kept B sv M M5 := fun c y hc hy => p3 c y (by rcases hc with hc | hc; exact h4.ne (by omega); exact hc.2) (getElem?_grow (k4 c y hc hy))
  have hrs : blkOf sv ≠ some M.length := fun e => by
    have := (h.St.blk e).2
    omega
  have r5 : M5[M.length]? = some (.cells true [[V.int .i64 0, V.int .i64 0]]) := p3 _ _ hrs (getElem?_grow r4)
  have hT5 := hb5 _ _ ⟨by omega, by omega⟩ h4.T
  have l5 : ∀ j k, loadV M5 k (.ptr (B + 5) 0 j) = part [V.ptr B 0 0, .slice (B + 1) 0 n n true 1, .slice (B + 2) 0 n n true 1, sv, .slice (B + 3) 0 n n true 1, .slice (B + 4) 0 n n true 1, .int .i64 (s.next + 1 : Nat)] j k := fun j k => load_at0 hT5
  have hsvc := p2.sl.cell
  have s5 := store_at0 (x := sv') (j := 3) (n := 1) hT5 (by rw [cells_cell hsvc]; rfl) (by simp) (by rw [cells_cell hsvc]; simp [hsvc])
  have e5 : splice [V.ptr B 0 0, .slice (B + 1) 0 n n true 1, .slice (B + 2) 0 n n true 1, sv, .slice (B + 3) 0 n n true 1, .slice (B + 4) 0 n n true 1, .int .i64 (s.next + 1 : Nat)] 3 sv'.cells = [V.ptr B 0 0, .slice (B + 1) 0 n n true 1, .slice (B + 2) 0 n n true 1, sv', .slice (B + 3) 0 n n true 1, .slice (B + 4) 0 n n true 1, .int .i64 (s.next + 1 : Nat)] := by rw [cells_cell hsvc]; rfl
  rw [e5] at s5
  have p2' : GS (B + 6) M5 sv' 1 (nats (s.stack ++ [p])) := by
    have : nats (s.stack ++ [p]) = nats s.stack ++ [[V.int .i64 (p : Int)]] := by simp
    rw [this]; exact p2
  have h6 : TM B (M5.set (B + 5) (.cells true [[V.ptr B 0 0, .slice (B + 1) 0 n n true 1, .slice (B + 2) 0 n n true 1, sv', .slice (B + 3) 0 n n true 1, .slice (B + 4) 0 n n true 1, .int .i64 (s.next + 1 : Nat)]])) nv rv n { s with ix := upd s.ix p (s.next + 1), low := upd s.low p (s.next + 1), stack := s.stack ++ [p], next := s.next + 1 } sv' :=
    ⟨set_self' hT5, set_get (by omega) (hb5 _ _ ⟨by omega, by omega⟩ h4.N), set_get (by omega) (hb5 _ _ ⟨by omega, by omega⟩ h4.I), set_get (by omega) (hb5 _ _ ⟨by omega, by omega⟩ h4.L), set_get (by omega) (hb5 _ _ ⟨by omega, by omega⟩ h4.O), set_get (by omega) (hb5 _ _ ⟨by omega, by omega⟩ h4.P), p2'.keep fun c y hc hy => set_get (by have := (p2'.blk hc).1; omega) hy⟩
  have k6 := k5.set (b := B + 5) (x := .cells true [[V.ptr B 0 0, .slice (B + 1) 0 n n true 1, .slice (B + 2) 0 n n true 1, sv', .slice (B + 3) 0 n n true 1, .slice (B + 4) 0 n n true 1, .int .i64 (s.next + 1 : Nat)]]) ⟨by omega, by omega⟩
  have r6 := set_get (x := .cells true [[V.ptr B 0 0, .slice (B + 1) 0 n n true 1, .slice (B + 2) 0 n n true 1, sv', .slice (B + 3) 0 n n true 1, .slice (B + 4) 0 n n true 1, .int .i64 (s.next + 1 : Nat)]]) (b := B + 5) (by omega) r5
  have ixO : asIndex 1 (.slice (B + 3) 0 n n true 1) (.int .i64 p) = some (atp (.slice (B + 3) 0 n n true 1) p 0) := by
    have := h6.slO.index (ki := .i64) (n := p) (by omega) (by rw [boolF_len]; omega)
    simpa using this
  have stO := store_own (n := 1) (len := n) (cap := n) (z := 1) (ex := true) (x := .bool true) h6.O (boolF_get hp) rfl rfl rfl
  simp only [V.cells, boolF_set] at stO
  have h7 := h6.setO (f := upd s.on p true)
  have k7 := k6.set (b := B + 3) (x := .cells true (boolF n (upd s.on p true))) ⟨by omega, by omega⟩
  have r7 := set_get (x := .cells true (boolF n (upd s.on p true))) (b := B + 3) (by omega) r6
  generalize hM7 : ((M5.set (B + 5) (.cells true [[V.ptr B 0 0, .slice (B + 1) 0 n n true 1, .slice (B + 2) 0 n n true 1, sv', .slice (B + 3) 0 n n true 1, .slice (B + 4) 0 n n true 1, .int .i64 (s.next + 1 : Nat)]])).set (B + 3) (.cells true (boolF n (upd s.on p true)))) = M7 at h7 k7 r7 stO
  have s7 := store_at0 (x := .agg [.int .i64 p, .int .i64 0]) (j := 0) (n := 2) r7 rfl (by simp) rfl
  have e7 : splice [V.int .i64 0, V.int .i64 0] 0 (V.agg [.int .i64 p, .int .i64 0]).cells = [V.int .i64 p, V.int .i64 0] := rfl
  rw [e7] at s7
  have hb1 : (V.slice (B + 3) 0 n n true 1).beq (.slice (B + 3) 0 n n true 1) = true := by simp [V.beq]
  have hrl := (List.getElem?_eq_some_iff.1 r7).1
  have l7 := fun k => load_set0 (M := M7) (b := M.length) (own := true) (el := [V.int .i64 p, V.int .i64 0]) (k := k) (j := 0) hrl
  have hlen7 : M7.length = M5.length := by rw [← hM7]; simp
  have hM4 : M.length ≤ M4.length := by have := (List.getElem?_eq_some_iff.1 r4).1; omega
  have hM5 : M.length ≤ M5.length := by simp at p5; omega
  have r2l : List.replicate 1 Blk.dead = [Blk.dead] := rfl
  simp (maxDischargeDepth := 30) only [r2l, ld4, p1, amL, args0, Nat.reduceEqDiff, reduceCtorEq, ↓reduceIte, Nat.reduceAdd, resultsA, results1, Int.reduceNeg, splice, Nat.reduceLeDiff, part, fillA, fillE, Nat.reduceLT]
  refine ⟨_, _, rfl, ⟨_, by rw [l5]; rfl, hb1⟩, _, s5, ?_⟩
  simp (maxDischargeDepth := 30) only [ixO, stO, s7, l7, amL, args0, Nat.reduceEqDiff, reduceCtorEq, ↓reduceIte, Nat.reduceAdd, resultsA, results1, Int.reduceNeg, splice, Nat.reduceLeDiff, part, fillA, fillE, Nat.reduceLT]
  have ht : ∀ c, blkOf sv' = some c → c ≠ M.length := fun c hc e => by
    rcases p4 with e2 | e2
    · rw [e2, e] at hc; exact hrs hc
    · rw [e2] at hc
      simp only [Option.some.injEq, List.length_append, List.length_singleton] at hc
      omega
  refine ⟨sv', (h7.other (by omega) (fun e => ht _ e rfl)), ?_, ?_, ?_⟩
  · rcases p4 with e2 | e2
    · exact .inl e2
    · exact .inr ⟨_, by simp; omega, e2⟩
  · intro c y hc hy
    have hcl := (List.getElem?_eq_some_iff.1 hy).1
    exact set_get (by omega) (k7 c y hc hy)
  · simp [hlen7]; omega
abbrev ints' (l : List Nat) : List Int := l.map fun p : Nat => (p : Int)
theorem nats_ints {l : List Nat} : nats l = i64s (ints' l) := by simp
theorem min_nat (c : Nat) (C : List Nat) : ∃ least : Nat, minL (c : Int) (ints' C) = least ∧ least ∈ c :: C ∧ ∀ q, q ∈ c :: C → least ≤ q := by
  obtain ⟨h1, h2, h3⟩ := minL_spec (ints' C) (c : Int)
  have : ∃ least : Nat, minL (c : Int) (ints' C) = least ∧ least ∈ c :: C := by
    rcases h1 with h1 | h1
    · exact ⟨c, h1, by simp⟩
    · obtain ⟨q, hq, e⟩ := List.mem_map.1 h1
      exact ⟨q, e.symm, by simp [hq]⟩
  obtain ⟨least, e, hm⟩ := this
  refine ⟨least, e, hm, fun q hq => ?_⟩
  rw [e] at h2 h3
  rcases List.mem_cons.1 hq with rfl | hq
  · omega
  · have := h3 (q : Int) (List.mem_map.2 ⟨q, hq, rfl⟩)
    omega
/-- what leaving a node does. -/
def leaveT (s : TS) (c : Nat) (A D : List Nat) (least : Nat) : TS := if s.low c = s.ix c then { s with stack := A, on := fun x => if x ∈ c :: D then false else s.on x, parts := fun x => if x ∈ c :: D then least else s.parts x } else s
def KeptAll (B : Nat) (M M' : Mem) : Prop := ∀ c y, (c < B ∨ B + 6 ≤ c) → M[c]? = some y → M'[c]? = some y
theorem leave_spec {B n : Nat} {M : Mem} {nv rv sv : V} {s : TS} {c : Nat} {A D : List Nat} (h : TM B M nv rv n s sv) (hc : c < n) (hn : n ≤ 4096) (hst : s.stack = A ++ c :: D) (hcA : c ∉ A) (hsn : ∀ q, q ∈ s.stack → q < n) (hsl : s.stack.length ≤ n) :
    C S n_graph_tarjan_leave [.ptr (B + 5) 0 0, .int .i64 c] M (fun _ M' => ∃ sv' least, least ∈ c :: D ∧ (∀ q, q ∈ c :: D → least ≤ q) ∧ TM B M' nv rv n (leaveT s c A D least) sv' ∧ blkOf sv' = blkOf sv ∧ KeptAll B M M' ∧ M'.length = M.length) := by
  obtain ⟨least, hmin, hl1, hl2⟩ := min_nat c D
  refine C_body rfl rfl rfl ?_
  unfold graph_tarjan_leave
  have ixI := h.slI.index (ki := .i64) (n := c) (by omega) (by rw [natF_len]; omega)
  have ixL := h.slL.index (ki := .i64) (n := c) (by omega) (by rw [natF_len]; omega)
  have ldI := fun o k => h.slI.load (o := o) (k := k) (natF_get hc)
  have ldL := fun o k => h.slL.load (o := o) (k := k) (natF_get hc)
  simp only [Int.toNat_natCast] at ixI ixL
  have ldT := fun j k => load_at0 (k := k) (j := j) h.T
  have r0 : List.replicate 0 Blk.dead = [] := rfl
  by_cases hlow : s.low c = s.ix c
  · have hlow' : ¬ ¬ ((s.low c : Nat) : Int) = s.ix c := by omega
    simp (maxDischargeDepth := 30) only [r0, List.append_nil, ldT, ixI, ixL, ldI, ldL, hlow', amL, args0, Nat.reduceEqDiff, reduceCtorEq, ↓reduceIte, Nat.reduceAdd, resultsA, results1, Int.reduceNeg, splice, Nat.reduceLeDiff, part, fillA, fillE, Nat.reduceLT]
    have hcA' : (c : Int) ∉ ints' A := fun hm => by
      obtain ⟨x, hx, e⟩ := List.mem_map.1 hm
      have : x = c := by omega
      exact hcA (this ▸ hx)
    have hstI : Sl M sv 1 (i64s (ints' s.stack)) := by rw [← nats_ints]; exact h.St.sl
    refine (Index_spec (c : Int) (A := ints' A) (D := ints' D) hstI (by simp; omega) (by rw [hst]; simp) hcA').mono ?_
    rintro _ _ ⟨rfl, rfl⟩
    have hAl : (ints' A).length = A.length := by simp
    have hsl2 : A.length ≤ (nats s.stack).length := by rw [hst]; simp
    obtain ⟨pv, hp1, hp2⟩ := h.St.tail hsl2
    have hdrop : (nats s.stack).drop A.length = nats (c :: D) := by
      rw [hst, ← List.map_drop, List.drop_left' rfl]
    rw [hdrop] at hp2
    have hz : zOk sv 1 = true := h.St.sl.2
    have hp3 : Sl M pv 1 (i64s ((c : Int) :: ints' D)) := by
      have : i64s ((c : Int) :: ints' D) = nats (c :: D) := by simp
      rw [this]; exact hp2
    have hDl : (c :: D).length ≤ n := by rw [hst] at hsl; simp at hsl ⊢; omega
    simp (maxDischargeDepth := 30) only [aft_mk, ldT, hAl, Option.map_none, hz, hp1, amL, args0, Nat.reduceEqDiff, reduceCtorEq, ↓reduceIte, Nat.reduceAdd, resultsA, results1, Int.reduceNeg, splice, Nat.reduceLeDiff, part, fillA, fillE, Nat.reduceLT]
    refine (Min_spec hp3 (by simp at hDl ⊢; omega)).mono ?_
    rintro _ _ ⟨rfl, rfl⟩
    rw [hmin]
    obtain ⟨P, hP⟩ : ∃ P, P = c :: D := ⟨_, rfl⟩
    rw [← hP] at hp2 hdrop hDl hl1 hl2 hst
    have hpl : (nats P).length = P.length := List.length_map _
    simp (maxDischargeDepth := 30) only [aft_mk, hp2.len, hpl, amL, args0, Nat.reduceEqDiff, reduceCtorEq, ↓reduceIte, Nat.reduceAdd, resultsA, results1, Int.reduceNeg, splice, Nat.reduceLeDiff, part, fillA, fillE, Nat.reduceLT]
    let onI := fun (i : Nat) => fun x => if x ∈ P.take i then false else s.on x
    let paI := fun (i : Nat) => fun x => if x ∈ P.take i then least else s.parts x
    let J := fun (k : Nat) (fr : Frame) (M' : Mem) => ∃ i : Nat, i ≤ P.length ∧ k = P.length - i ∧ fr 0 = .ptr (B + 5) 0 0 ∧ fr 4 = .int .i64 A.length ∧ fr 6 = .int .i64 least ∧ fr 38 = pv ∧ fr 39 = .int .i64 P.length ∧ fr 40 = .int .i64 i ∧ TM B M' nv rv n { s with on := onI i, parts := paI i } sv ∧ Sl M' pv 1 (nats P) ∧ KeptAll B M M' ∧ M'.length = M.length
    refine W_loop J ?_ P.length ?_
    · rintro k fr M' ⟨i, hi, rfl, f0, f4, f6, f38, f39, f40, hTM, hpv, hka, hlen⟩
      unfold graph_tarjan_leave_l0
      simp (maxDischargeDepth := 30) only [f0, f4, f6, f38, f39, f40, amL, args0, Nat.reduceEqDiff, reduceCtorEq, ↓reduceIte, Nat.reduceAdd, resultsA, results1, Int.reduceNeg, splice, Nat.reduceLeDiff, part, fillA, fillE, Nat.reduceLT]
      first | (refine O_split (by simp only [put_apply, Nat.reduceEqDiff, ↓reduceIte, reduceCtorEq]; rfl) (fun h' => ?_) (fun h' => ?_) <;> simp only [decide_eq_true_eq, decide_eq_false_iff_not, Decidable.not_not, Bool.and_eq_true, Bool.not_eq_true', Bool.not_eq_false'] at h') | (refine W_split (by simp only [get_t, put_apply, Nat.reduceEqDiff, ↓reduceIte, reduceCtorEq]; rfl) (fun h' => ?_) (fun h' => ?_) <;> simp only [decide_eq_true_eq, decide_eq_false_iff_not, Decidable.not_not, Bool.and_eq_true, Bool.not_eq_true', Bool.not_eq_false'] at h')
      · have hil : i < P.length := by omega
        obtain ⟨q, hq⟩ : ∃ q, P[i]? = some q := ⟨_, List.getElem?_eq_getElem hil⟩
        have hqn : q < n := hsn q (by rw [hst]; exact List.mem_append_right _ (List.mem_of_getElem? hq))
        have ix := hpv.index (ki := .i64) (n := i) (by omega) (by rw [hpl]; omega)
        have ld := fun o j => hpv.load (o := o) (k := j) (i := i) (el := [.int .i64 q]) (by simp [hq])
        simp only [Int.toNat_natCast] at ix ld
        have w1 : IntKind.i64.wrap ((i : Int) + 1) = ((i + 1 : Nat) : Int) := by rw [wrap_i64] <;> omega
        have hT' := fun j k => load_at0 (k := k) (j := j) hTM.T
        have ixP := hTM.slP.index (ki := .i64) (n := q) (by omega) (by rw [natF_len]; omega)
        have ixO := hTM.slO.index (ki := .i64) (n := q) (by omega) (by rw [boolF_len]; omega)
        have stP := store_own (n := 1) (len := n) (cap := n) (z := 1) (ex := true) (x := .int .i64 (least : Int)) hTM.P (natF_get hqn) rfl rfl rfl
        have h2 := hTM.setP (f := upd (paI i) q least)
        have stO := store_own (n := 1) (len := n) (cap := n) (z := 1) (ex := true) (x := .bool false) h2.O (boolF_get hqn) rfl rfl rfl
        simp only [V.cells, natF_set, boolF_set, Int.toNat_natCast] at ixP ixO stP stO
        have h3 := h2.setO (f := upd (onI i) q false)
        obtain ⟨hi1, hi2⟩ := List.getElem?_eq_some_iff.1 hq
        have htk : P.take (i + 1) = P.take i ++ [q] := by rw [List.take_succ_eq_append_getElem hi1, hi2]
        have eO : upd (onI i) q false = onI (i + 1) := by
          funext x
          simp only [onI, htk, List.mem_append, List.mem_singleton]
          by_cases e : x = q
          · rw [e, upd_self]; simp
          · rw [upd_ne e]; simp [e]
        have eP : upd (paI i) q least = paI (i + 1) := by
          funext x
          simp only [paI, htk, List.mem_append, List.mem_singleton]
          by_cases e : x = q
          · rw [e, upd_self]; simp
          · rw [upd_ne e]; simp [e]
        have hpb : ∀ b, B ≤ b → b < B + 6 → ∀ x : Blk, Sl (M'.set b x) pv 1 (nats P) → True := fun _ _ _ _ _ => trivial
        simp (maxDischargeDepth := 30) only [h', f0, f4, f6, f38, f39, f40, ix, ld, r0, List.append_nil, hT', ixP, ixO, stP, stO, w1, amL, args0, Nat.reduceEqDiff, reduceCtorEq, ↓reduceIte, Nat.reduceAdd, resultsA, results1, Int.reduceNeg, splice, Nat.reduceLeDiff, part, fillA, fillE, Nat.reduceLT]
        refine ⟨_, ?_, i + 1, by omega, rfl, ?_, ?_, ?_, ?_, ?_, ?_, ?_, ?_, ?_, ?_⟩
        · omega
        · simp (maxDischargeDepth := 30) only [f0, amL, args0, Nat.reduceEqDiff, reduceCtorEq, ↓reduceIte, Nat.reduceAdd, resultsA, results1, Int.reduceNeg, splice, Nat.reduceLeDiff, part, fillA, fillE, Nat.reduceLT]
        · simp (maxDischargeDepth := 30) only [f4, amL, args0, Nat.reduceEqDiff, reduceCtorEq, ↓reduceIte, Nat.reduceAdd, resultsA, results1, Int.reduceNeg, splice, Nat.reduceLeDiff, part, fillA, fillE, Nat.reduceLT]
        · simp (maxDischargeDepth := 30) only [f6, amL, args0, Nat.reduceEqDiff, reduceCtorEq, ↓reduceIte, Nat.reduceAdd, resultsA, results1, Int.reduceNeg, splice, Nat.reduceLeDiff, part, fillA, fillE, Nat.reduceLT]
        · simp (maxDischargeDepth := 30) only [f38, amL, args0, Nat.reduceEqDiff, reduceCtorEq, ↓reduceIte, Nat.reduceAdd, resultsA, results1, Int.reduceNeg, splice, Nat.reduceLeDiff, part, fillA, fillE, Nat.reduceLT]
        · simp (maxDischargeDepth := 30) only [f39, amL, args0, Nat.reduceEqDiff, reduceCtorEq, ↓reduceIte, Nat.reduceAdd, resultsA, results1, Int.reduceNeg, splice, Nat.reduceLeDiff, part, fillA, fillE, Nat.reduceLT]
        · simp (maxDischargeDepth := 30) only [amL, args0, Nat.reduceEqDiff, reduceCtorEq, ↓reduceIte, Nat.reduceAdd, resultsA, results1, Int.reduceNeg, splice, Nat.reduceLeDiff, part, fillA, fillE, Nat.reduceLT]
        · rw [eP, eO] at h3; rw [eP, eO]; exact h3
        · obtain ⟨u', hu1, hu2⟩ := h3.St.tail (k := A.length) hsl2
          rw [hp1] at hu1
          cases hu1
          rw [hdrop] at hu2
          exact hu2
        · intro x y hx hy
          exact set_get (by omega) (set_get (by omega) (hka x y hx hy))
        · simp [hlen]
      · have hii : i = P.length := by omega
        subst hii
        obtain ⟨sv', hs1, hs2, hs3⟩ := hTM.St.cut (k := A.length) (by rw [hst]; simp)
        have htake : (nats s.stack).take A.length = nats A := by rw [hst, ← List.map_take, List.take_left' rfl]
        have hs2 : GS (B + 6) M' sv' 1 (nats A) := by have := hs2; rwa [htake] at this
        have hsvc := hs2.sl.cell
        have hT' := fun j k => load_at0 (k := k) (j := j) hTM.T
        have s5 := store_at0 (x := sv') (j := 3) (n := 1) hTM.T (by rw [cells_cell hsvc]; rfl) (by simp) (by rw [cells_cell hsvc]; simp [hsvc])
        have e5 : splice [V.ptr B 0 0, .slice (B + 1) 0 n n true 1, .slice (B + 2) 0 n n true 1, sv, .slice (B + 3) 0 n n true 1, .slice (B + 4) 0 n n true 1, .int .i64 s.next] 3 sv'.cells = [V.ptr B 0 0, .slice (B + 1) 0 n n true 1, .slice (B + 2) 0 n n true 1, sv', .slice (B + 3) 0 n n true 1, .slice (B + 4) 0 n n true 1, .int .i64 s.next] := by rw [cells_cell hsvc]; rfl
        rw [e5] at s5
        have h6 := hTM.setS hs2
        simp (maxDischargeDepth := 30) only [h', f0, f4, f6, f38, f39, f40, hT', Option.map_none, hz, hs1, s5, amL, args0, Nat.reduceEqDiff, reduceCtorEq, ↓reduceIte, Nat.reduceAdd, resultsA, results1, Int.reduceNeg, splice, Nat.reduceLeDiff, part, fillA, fillE, Nat.reduceLT]
        refine ⟨sv', least, by rw [← hP]; exact hl1, by rw [← hP]; exact hl2, ?_, hs3, ?_, by simp [hlen]⟩
        · have e : leaveT s c A D least = { s with on := onI P.length, parts := paI P.length, stack := A } := by
            unfold leaveT
            rw [if_pos hlow, ← hP]
            simp only [onI, paI, List.take_length]
          rw [e]; exact h6
        · intro x y hx hy
          exact set_get (by omega) (hka x y hx hy)
    · refine ⟨0, Nat.zero_le _, rfl, by simp (maxDischargeDepth := 30) only [amL, args0, Nat.reduceEqDiff, reduceCtorEq, ↓reduceIte, Nat.reduceAdd, resultsA, results1, Int.reduceNeg, splice, Nat.reduceLeDiff, part, fillA, fillE, Nat.reduceLT], by simp (maxDischargeDepth := 30) only [amL, args0, Nat.reduceEqDiff, reduceCtorEq, ↓reduceIte, Nat.reduceAdd, resultsA, results1, Int.reduceNeg, splice, Nat.reduceLeDiff, part, fillA, fillE, Nat.reduceLT], by simp (maxDischargeDepth := 30) only [amL, args0, Nat.reduceEqDiff, reduceCtorEq, ↓reduceIte, Nat.reduceAdd, resultsA, results1, Int.reduceNeg, splice, Nat.reduceLeDiff, part, fillA, fillE, Nat.reduceLT], by simp (maxDischargeDepth := 30) only [amL, args0, Nat.reduceEqDiff, reduceCtorEq, ↓reduceIte, Nat.reduceAdd, resultsA, results1, Int.reduceNeg, splice, Nat.reduceLeDiff, part, fillA, fillE, Nat.reduceLT], by simp (maxDischargeDepth := 30) only [amL, args0, Nat.reduceEqDiff, reduceCtorEq, ↓reduceIte, Nat.reduceAdd, resultsA, results1, Int.reduceNeg, splice, Nat.reduceLeDiff, part, fillA, fillE, Nat.reduceLT], by simp (maxDischargeDepth := 30) only [amL, args0, Nat.reduceEqDiff, reduceCtorEq, ↓reduceIte, Nat.reduceAdd, resultsA, results1, Int.reduceNeg, splice, Nat.reduceLeDiff, part, fillA, fillE, Nat.reduceLT]; rfl, ?_, hp2, fun _ _ _ hy => hy, rfl⟩
      have e1 : onI 0 = s.on := by funext x; simp [onI]
      have e2 : paI 0 = s.parts := by funext x; simp [paI]
      rw [e1, e2]; exact h
  · have hlow' : ¬ ((s.low c : Nat) : Int) = s.ix c := by omega
    simp (maxDischargeDepth := 30) only [r0, List.append_nil, ldT, ixI, ixL, ldI, ldL, hlow', amL, args0, Nat.reduceEqDiff, reduceCtorEq, ↓reduceIte, Nat.reduceAdd, resultsA, results1, Int.reduceNeg, splice, Nat.reduceLeDiff, part, fillA, fillE, Nat.reduceLT]
    have e : leaveT s c A D least = s := by unfold leaveT; rw [if_neg hlow]
    exact ⟨sv, least, hl1, hl2, by rw [e]; exact h, rfl, fun _ _ _ hy => hy⟩
end Go.AM.G
