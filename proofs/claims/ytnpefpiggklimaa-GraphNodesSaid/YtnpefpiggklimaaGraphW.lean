/- Part of the proof: contracts of functions of the given program on an abstract machine. -/
import Derived.Test.YtnpefpiggklimaaGraphE
set_option linter.unusedVariables false
set_option linter.unusedSimpArgs false
set_option maxRecDepth 100000
namespace Go.AM.G
open Go Go.AM
/-- a way of so many steps from some, never through one. -/
inductive Pth (to : Nat → List Nat) (src : List Nat) (but : Int) : Nat → Nat → Prop
  | start {p : Nat} : p ∈ src → (p : Int) ≠ but → Pth to src but 0 p
  | step {k p q : Nat} : Pth to src but k p → q ∈ to p → (q : Int) ≠ but → Pth to src but (k + 1) q
structure BS where
  far : Nat → Int
  todo : List Nat
def seeB (but : Int) (s : BS) (p : Nat) (d : Int) : BS := if (p : Int) ≠ but ∧ s.far p < 0 then ⟨upd s.far p d, s.todo ++ [p]⟩ else s
section
variable {to : Nat → List Nat} {src : List Nat} {but : Int} {n : Nat}
/-- what holds of the walk; d: how far those are that are being walked from. -/
structure BI (to : Nat → List Nat) (src : List Nat) (but : Int) (n : Nat) (s : BS) (d : Int) : Prop where
  nd : s.todo.Nodup
  mem : ∀ p, p ∈ s.todo ↔ 0 ≤ s.far p
  ok : ∀ p, p ∈ s.todo → p < n ∧ (p : Int) ≠ but
  way : ∀ p, p ∈ s.todo → Pth to src but (s.far p).toNat p
  srt : s.todo.Pairwise fun a b => s.far a ≤ s.far b
  top : ∀ p, p ∈ s.todo → s.far p ≤ d
theorem BI.see {s : BS} {d : Int} (h : BI to src but n s d) {p : Nat} (hp : p < n) (hd : 0 ≤ d) (hw : (p : Int) ≠ but → Pth to src but d.toNat p) : BI to src but n (seeB but s p d) d ∧ (∀ q, 0 ≤ s.far q → (seeB but s p d).far q = s.far q) ∧ ((p : Int) ≠ but → 0 ≤ (seeB but s p d).far p ∧ (seeB but s p d).far p ≤ d) ∧ (∃ r, (seeB but s p d).todo = s.todo ++ r) := by
  unfold seeB
  split
  · rename_i hc
    have hns : p ∉ s.todo := fun hm => by have := (h.mem p).1 hm; omega
    have hne : ∀ q, q ∈ s.todo → q ≠ p := fun q hq e => hns (e ▸ hq)
    refine ⟨⟨?_, ?_, ?_, ?_, ?_, ?_⟩, ?_, ?_, ⟨[p], rfl⟩⟩
    · show (s.todo ++ [p]).Nodup
      rw [List.nodup_append]
      refine ⟨h.nd, by simp, fun a ha b hb e => ?_⟩
      rw [List.mem_singleton] at hb
      exact hne a ha (e.trans hb)
    · intro q
      show q ∈ s.todo ++ [p] ↔ 0 ≤ upd s.far p d q
      rw [List.mem_append, List.mem_singleton]
      by_cases e : q = p
      · rw [e, upd_self]; simp [hd]
      · rw [upd_ne e, ← h.mem]; simp [e]
    · intro q hq
      rcases List.mem_append.1 hq with hq | hq
      · exact h.ok q hq
      · rw [List.mem_singleton.1 hq]; exact ⟨hp, hc.1⟩
    · intro q hq
      show Pth to src but (upd s.far p d q).toNat q
      rcases List.mem_append.1 hq with hq | hq
      · rw [upd_ne (hne q hq)]; exact h.way q hq
      · rw [List.mem_singleton.1 hq, upd_self]; exact hw hc.1
    · show (s.todo ++ [p]).Pairwise _
      rw [List.pairwise_append]
      refine ⟨h.srt.imp_of_mem fun {a b} ha hb hab => ?_, List.pairwise_singleton _ _, fun a ha b hb => ?_⟩
      · show upd s.far p d a ≤ upd s.far p d b
        rw [upd_ne (hne a ha), upd_ne (hne b hb)]; exact hab
      · show upd s.far p d a ≤ upd s.far p d b
        rw [List.mem_singleton.1 hb, upd_self, upd_ne (hne a ha)]; exact h.top a ha
    · intro q hq
      show upd s.far p d q ≤ d
      rcases List.mem_append.1 hq with hq | hq
      · rw [upd_ne (hne q hq)]; exact h.top q hq
      · rw [List.mem_singleton.1 hq, upd_self]; exact Int.le_refl _
    · intro q hq
      have : q ≠ p := fun e => by rw [e] at hq; omega
      exact upd_ne this
    · intro _
      show 0 ≤ upd s.far p d p ∧ upd s.far p d p ≤ d
      rw [upd_self]; exact ⟨hd, Int.le_refl _⟩
  · rename_i hc
    refine ⟨h, fun _ _ => rfl, fun hb => ?_, ⟨[], by simp⟩⟩
    have h1 : 0 ≤ s.far p := by
      rcases Int.lt_or_le (s.far p) 0 with h2 | h2
      · exact absurd ⟨hb, h2⟩ hc
      · exact h2
    exact ⟨h1, h.top p ((h.mem p).2 h1)⟩
/-- the walk is done. -/
theorem BI.exact {s : BS} {d : Int} (h : BI to src but n s d) (hs : ∀ p, p ∈ src → (p : Int) ≠ but → s.far p = 0) (he : ∀ p, p ∈ s.todo → ∀ q, q ∈ to p → (q : Int) ≠ but → 0 ≤ s.far q ∧ s.far q ≤ s.far p + 1) : ∀ k p, Pth to src but k p → 0 ≤ s.far p ∧ s.far p ≤ k := by
  intro k p hp
  induction hp with
  | start h1 h2 => rw [hs _ h1 h2]; exact ⟨by omega, by omega⟩
  | step _ h2 h3 ih =>
    have := he _ ((h.mem _).2 ih.1) _ h2 h3
    omega
end
def intF (n : Nat) (f : Nat → Int) : List (List V) := (List.range n).map fun p => [.int .i64 (f p)]
theorem intF_len {n : Nat} {f : Nat → Int} : (intF n f).length = n := by simp [intF]
theorem intF_get {n p : Nat} {f : Nat → Int} (h : p < n) : (intF n f)[p]? = some [.int .i64 (f p)] := by simp [intF, h]
theorem intF_set {n p : Nat} {v : Int} {f : Nat → Int} : (intF n f).set p [.int .i64 v] = intF n (upd f p v) := by
  apply List.ext_getElem?
  intro i
  by_cases hi : i < n
  · by_cases e : p = i
    · subst e
      rw [List.getElem?_set_self (by rw [intF_len]; exact hi), intF_get hi, upd_self]
    · rw [List.getElem?_set_ne e, intF_get hi, intF_get hi, upd_ne (Ne.symm e)]
  · rw [List.getElem?_eq_none (by simp [intF_len]; omega), List.getElem?_eq_none (by simp [intF_len]; omega)]
theorem intF_rep {n : Nat} {x : Int} : i64s (List.replicate n x) = intF n (fun _ => x) := by
  apply List.ext_getElem?
  intro i
  by_cases h : i < n
  · rw [intF_get h]; simp [h]
  · rw [List.getElem?_eq_none (by simp; omega), List.getElem?_eq_none (by rw [intF_len]; omega)]
/-- the walk's state in the memory. -/
structure WM (Pb bf Pf : Nat) (but : Int) (n cap : Nat) (ex : Bool) (M : Mem) (s : BS) (tv : V) : Prop where
  lt1 : Pb < bf
  lt2 : bf < Pf
  b : M[Pb]? = some (.cells true [[.int .i64 but]])
  f : M[Pf]? = some (.cells true [[.slice bf 0 n cap ex 1]])
  d : M[bf]? = some (.cells true (intF n s.far))
  t : M[Pf + 1]? = some (.cells true [[tv]])
  g : GS (Pf + 2) M tv 1 (nats s.todo)
section
variable {Pb bf Pf n cap : Nat} {ex : Bool} {but : Int} {M : Mem} {s : BS} {tv : V}
theorem WM.slF (h : WM Pb bf Pf but n cap ex M s tv) : Sl M (.slice bf 0 n cap ex 1) 1 (intF n s.far) := by have := Sl.mk (cap := cap) (ex := ex) (z := 1) h.d; rwa [intF_len] at this
theorem WM.len (h : WM Pb bf Pf but n cap ex M s tv) : Pf + 2 ≤ M.length := by have := (List.getElem?_eq_some_iff.1 h.t).1; omega
theorem WM.app {g : Mem} (h : WM Pb bf Pf but n cap ex M s tv) : WM Pb bf Pf but n cap ex (M ++ g) s tv := ⟨h.lt1, h.lt2, getElem?_grow h.b, getElem?_grow h.f, getElem?_grow h.d, getElem?_grow h.t, h.g.app⟩
end
theorem see_spec {m M : Mem} {Pb bf Pf n cap : Nat} {ex : Bool} {but : Int} {s : BS} {tv : V} {p : Nat} (d : Int) (h : WM Pb bf Pf but n cap ex M s tv) (hg : Grow m M) (hm : m.length ≤ Pb) (hp : p < n) (hn : n ≤ 4096) (ht : s.todo.length ≤ n) :
    C S n_graph_net_walk_1 [.int .i64 p, .int .i64 d, .ptr Pb 0 0, .ptr Pf 0 0, .ptr (Pf + 1) 0 0] M (fun _ M' => ∃ tv', WM Pb bf Pf but n cap ex M' (seeB but s p d) tv' ∧ Grow m M') := by
  refine C_body rfl rfl rfl ?_
  unfold graph_net_walk_1
  have l1 := h.lt1
  have l2 := h.lt2
  have lb := fun k => load_at0 (k := k) (j := 0) h.b
  have lf := fun k => load_at0 (k := k) (j := 0) h.f
  have lt := fun k => load_at0 (k := k) (j := 0) h.t
  have ix := h.slF.index (ki := .i64) (n := p) (by omega) (by rw [intF_len]; omega)
  have ld := fun o k => h.slF.load (o := o) (k := k) (intF_get hp)
  have st := store_own (n := 1) (len := n) (cap := cap) (z := 1) (ex := ex) (x := .int .i64 d) h.d (intF_get hp) rfl rfl rfl
  simp only [Int.toNat_natCast, V.cells, intF_set] at ix st
  by_cases h1 : (p : Int) = but
  · have h1' : ¬ ¬ (p : Int) = but := fun x => x h1
    have e : seeB but s p d = s := by unfold seeB; rw [if_neg (fun x => x.1 h1)]
    simp (maxDischargeDepth := 30) only [lb, h1', amL, args0, Nat.reduceEqDiff, reduceCtorEq, ↓reduceIte, Nat.reduceAdd, resultsA, results1, Int.reduceNeg, splice, Nat.reduceLeDiff, part, fillA, fillE, Nat.reduceLT]
    rw [e]
    exact ⟨tv, h, hg⟩
  by_cases h2 : s.far p < 0
  · have e : seeB but s p d = ⟨upd s.far p d, s.todo ++ [p]⟩ := by unfold seeB; rw [if_pos ⟨h1, h2⟩]
    rw [e]
    have h3 : WM Pb bf Pf but n cap ex (M.set bf (.cells true (intF n (upd s.far p d)))) ⟨upd s.far p d, s.todo⟩ tv := ⟨l1, l2, set_get (by omega) h.b, set_get (by omega) h.f, set_self' h.d, set_get (by omega) h.t, h.g.keep fun c y hc hy => set_get (by have := (h.g.blk hc).1; omega) hy⟩
    have hg3 : Grow m (M.set bf (.cells true (intF n (upd s.far p d)))) := hg.set (by omega) _
    generalize hM3 : M.set bf (.cells true (intF n (upd s.far p d))) = M3 at h3 hg3
    have lt3 := fun k => load_at0 (k := k) (j := 0) h3.t
    have hl3 := h3.len
    obtain ⟨tv', M4, p1, p2, p3, p4, p5⟩ := (h3.app (g := [Blk.cells true [[V.int .i64 p]]])).g.push (T := M3.length) (own := true) (x := [V.int .i64 p]) (zero := [.int .i64 0]) (bytes := 8) rfl (by simp) (by simp [roomy]; omega) (by simp; omega)
    have hk : ∀ c y, c < Pf + 2 → M3[c]? = some y → M4[c]? = some y := fun c y hc hy => p3 c y (fun e => by have := (h3.g.blk e).1; omega) (getElem?_grow hy)
    have ht4 := hk _ _ (by omega) h3.t
    have hc4 := p2.sl.cell
    have s4 := store_at0 (x := tv') (j := 0) (n := 1) ht4 (by rw [cells_cell hc4]; rfl) (by simp) (by rw [cells_cell hc4]; simp [hc4])
    have e4 : splice [tv] 0 tv'.cells = [tv'] := by rw [cells_cell hc4]; rfl
    rw [e4] at s4
    simp (maxDischargeDepth := 30) only [lb, h1, lf, ix, ld, h2, st, hM3, lt3, amL, args0, Nat.reduceEqDiff, reduceCtorEq, ↓reduceIte, Nat.reduceAdd, resultsA, results1, Int.reduceNeg, splice, Nat.reduceLeDiff, part, fillA, fillE, Nat.reduceLT]
    refine ⟨_, _, p1, ?_⟩
    simp (maxDischargeDepth := 30) only [s4, amL, args0, Nat.reduceEqDiff, reduceCtorEq, ↓reduceIte, Nat.reduceAdd, resultsA, results1, Int.reduceNeg, splice, Nat.reduceLeDiff, part, fillA, fillE, Nat.reduceLT]
    have p2' : GS (Pf + 2) M4 tv' 1 (nats (s.todo ++ [p])) := by
      have : nats (s.todo ++ [p]) = nats s.todo ++ [[V.int .i64 (p : Int)]] := by simp
      rw [this]; exact p2
    refine ⟨tv', ⟨l1, l2, set_get (by omega) (hk _ _ (by omega) h3.b), set_get (by omega) (hk _ _ (by omega) h3.f), set_get (by omega) (hk _ _ (by omega) h3.d), set_self' ht4, p2'.keep fun c y hc hy => set_get (by have := (p2'.blk hc).1; omega) hy⟩, ?_⟩
    exact (Grow.keep' hg3 fun c y hc hy => hk c y (by omega) hy).set (by omega) _
  · have e : seeB but s p d = s := by unfold seeB; rw [if_neg (fun x => h2 x.2)]
    simp (maxDischargeDepth := 30) only [lb, h1, lf, ix, ld, h2, amL, args0, Nat.reduceEqDiff, reduceCtorEq, ↓reduceIte, Nat.reduceAdd, resultsA, results1, Int.reduceNeg, splice, Nat.reduceLeDiff, part, fillA, fillE, Nat.reduceLT]
    rw [e]
    exact ⟨tv, h, hg⟩
end Go.AM.G
