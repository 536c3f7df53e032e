/- holders on the machine. -/
import Derived.Test.YtnpefpiggklimaaGraphO
set_option linter.unusedVariables false
set_option linter.unusedSimpArgs false

set_option maxRecDepth 100000
namespace Go.AM.G
open Go Go.AM
/-- what holders tells. -/
def HoldRes (N : List NodeA) (R : List Int) (hr : Nat → Int) : Prop := ∃ up rk : Nat → Nat, ∀ p, p < N.length → (¬ Live N R p → hr p = -2) ∧ (Live N R p → ((up p = N.length ∧ hr p = -1) ∨ (up p < N.length ∧ hr p = up p ∧ Live N R (up p))) ∧ rk (up p) < rk p ∧ ∀ d, d < N.length → (An N.length up p d ↔ ¬ ∃ j, Pth (toN N) (rootsN R) d j p))
/-- the first round of gathering. -/
structure PM (M1 : Mem) (br Pr F : Nat) (cap : Nat) (ex : Bool) (n : Nat) (M : Mem) (rkI : Nat → Int) (tv : Nat → V) (ls : Nat → List Nat) : Prop where
  gr : Grow M1 M
  o1 : M1.length ≤ br
  o2 : br < Pr
  o3 : Pr < F
  r : M[br]? = some (.cells true (intF (n + 1) rkI))
  pr : M[Pr]? = some (.cells true [[.slice br 0 (n + 1) cap ex 1]])
  fm : FM (F + 1) F M n tv ls
section
variable {M1 : Mem} {br Pr F cap n : Nat} {ex : Bool} {M : Mem} {rkI : Nat → Int} {tv : Nat → V} {ls : Nat → List Nat}
theorem PM.slR (h : PM M1 br Pr F cap ex n M rkI tv ls) : Sl M (.slice br 0 (n + 1) cap ex 1) 1 (intF (n + 1) rkI) := by have := Sl.mk (cap := cap) (ex := ex) (z := 1) h.r; rwa [intF_len] at this
theorem PM.setR (h : PM M1 br Pr F cap ex n M rkI tv ls) {f : Nat → Int} : PM M1 br Pr F cap ex n (M.set br (.cells true (intF (n + 1) f))) f tv ls :=
  ⟨h.gr.set h.o1 _, h.o1, h.o2, h.o3, set_self' h.r, set_get (by have := h.o2; omega) h.pr, h.fm.set (by have := h.o2; have := h.o3; omega) (by have := h.o2; have := h.o3; omega)⟩
theorem PM.push (h : PM M1 br Pr F cap ex n M rkI tv ls) {q : Nat} (hq : q < n) (x : Nat) (hr : (ls q).length < 1000000000) : ∃ u' M', appendV (M ++ [Blk.cells true [[V.int .i64 (x : Int)]]]) [.int .i64 0] 8 (tv q) (.slice M.length 0 1 1 true 1) = some (u', M') ∧ u'.cells = [u'] ∧ u'.isCell = true ∧ storeV M' 1 (atp (.slice F 0 n n true 1) q 0) u' = some (M'.set F (.cells true (vF n (upd tv q u')))) ∧ PM M1 br Pr F cap ex n (M'.set F (.cells true (vF n (upd tv q u')))) rkI (upd tv q u') (upd ls q (ls q ++ [x])) := by
  obtain ⟨u', M', p1, p2, p3, p4, p5, p6⟩ := h.fm.push hq x hr
  have o1 := h.o1
  have o2 := h.o2
  have o3 := h.o3
  exact ⟨u', M', p1, p2, p3, p4, Grow.keep' h.gr fun c y hc hy => p6 c y (by omega) (by omega) hy, o1, o2, o3, p6 _ _ (by omega) (by omega) h.r, p6 _ _ (by omega) (by omega) h.pr, p5⟩
end
/-- what is gathered so far. -/
def Gath (to : Nat → List Nat) (A : List Nat) (ls : Nat → List Nat) (n : Nat) (p : Nat) (j : Nat) (src : List Nat) : Prop := ∀ q, q < n → ∀ x, x ∈ ls q ↔ (x ∈ A ∧ q ∈ to x) ∨ (x = p ∧ q ∈ (to p).take j) ∨ (x = n ∧ q ∈ src)
theorem Gath.step {to : Nat → List Nat} {A src : List Nat} {ls : Nat → List Nat} {n p j q : Nat} (h : Gath to A ls n p j src) (hq : (to p)[j]? = some q) : Gath to A (upd ls q (ls q ++ [p])) n p (j + 1) src := by
  obtain ⟨h1, h2⟩ := List.getElem?_eq_some_iff.1 hq
  intro y hy x
  rw [List.take_succ_eq_append_getElem h1, h2]
  have := h y hy x
  by_cases e : y = q
  · subst e
    rw [upd_self, List.mem_append, List.mem_append, this]
    simp only [List.mem_singleton, or_true, and_true]
    constructor
    · rintro ((h | h | h) | h)
      · exact .inl h
      · exact .inr (.inl h.1)
      · exact .inr (.inr h)
      · exact .inr (.inl h)
    · rintro (h | h | h)
      · exact .inl (.inl h)
      · exact .inr h
      · exact .inl (.inr (.inr h))
  · rw [upd_ne e, this, List.mem_append, List.mem_singleton]
    simp [e]
theorem Gath.next {to : Nat → List Nat} {L src : List Nat} {ls : Nat → List Nat} {n i p : Nat} (h : Gath to (L.take i) ls n p (to p).length src) (hp : L[i]? = some p) (p' : Nat) : Gath to (L.take (i + 1)) ls n p' 0 src := by
  obtain ⟨h1, h2⟩ := List.getElem?_eq_some_iff.1 hp
  intro q hq x
  rw [h q hq x, List.take_length, List.take_succ_eq_append_getElem h1, h2, List.mem_append, List.mem_singleton, List.take_zero]
  constructor
  · rintro (⟨a, b⟩ | ⟨rfl, b⟩ | h)
    · exact .inl ⟨.inl a, b⟩
    · exact .inl ⟨.inr rfl, b⟩
    · exact .inr (.inr h)
  · rintro (⟨a | a, b⟩ | ⟨_, b⟩ | h)
    · exact .inl ⟨a, b⟩
    · subst a; exact .inr (.inl ⟨rfl, b⟩)
    · simp at b
    · exact .inr (.inr h)
theorem Gath.root {to : Nat → List Nat} {A src : List Nat} {ls : Nat → List Nat} {n p i r : Nat} (h : Gath to A ls n p 0 (src.take i)) (hr : src[i]? = some r) : Gath to A (upd ls r (ls r ++ [n])) n p 0 (src.take (i + 1)) := by
  obtain ⟨h1, h2⟩ := List.getElem?_eq_some_iff.1 hr
  intro y hy x
  rw [List.take_succ_eq_append_getElem h1, h2]
  have := h y hy x
  by_cases e : y = r
  · subst e
    rw [upd_self, List.mem_append, List.mem_append, this]
    simp only [List.mem_singleton, or_true, and_true]
    constructor
    · rintro ((h | h | h) | h)
      · exact .inl h
      · exact .inr (.inl h)
      · exact .inr (.inr h.1)
      · exact .inr (.inr h)
    · rintro (h | h | h)
      · exact .inl (.inl h)
      · exact .inl (.inr (.inl h))
      · exact .inr h
  · rw [upd_ne e, this, List.mem_append, List.mem_singleton]
    simp [e]
/-- how much may still go up. -/
def phi (h : HC) (up : Nat → Nat) (set : Nat → Bool) : Nat := (h.L.map fun x => if set x then h.rk (up x) + 1 else h.L.length + 2).sum
theorem phi_upd {h : HC} {up : Nat → Nat} {set : Nat → Bool} {p b : Nat} (hnd : h.L.Nodup) (hp : p ∈ h.L) (hb : h.rk b < h.rk p) (hpl : h.rk p ≤ h.L.length) (hlt : set p = true → h.rk b < h.rk (up p)) : phi h (upd up p b) (upd set p true) < phi h up set := by
  have := sum_upd (f := fun x => if set x then h.rk (up x) + 1 else h.L.length + 2) (g := fun x => if upd set p true x then h.rk (upd up p b x) + 1 else h.L.length + 2) h.L hnd hp (fun x _ hx => by simp only [upd_ne hx])
  simp only [upd_self, if_true] at this
  unfold phi
  cases hs : set p with
  | true =>
    have := hlt hs
    simp only [hs, if_true] at *
    omega
  | false =>
    simp only [hs] at *
    simp at *
    omega
/-- one more is looked at. -/
def BestOf (h : HC) (up : Nat → Nat) (set : Nat → Bool) (A : List Nat) (best : Int) : Prop := (best = -2 ∧ ∀ q, q ∈ A → set q = false) ∨ ∃ b : Nat, best = b ∧ set b = true ∧ (∃ q, q ∈ A ∧ set q = true) ∧ (∀ q, q ∈ A → set q = true → An h.k up q b) ∧ ∀ y, (∀ q, q ∈ A → set q = true → An h.k up q y) → An h.k up b y
end Go.AM.G


set_option maxRecDepth 100000
namespace Go.AM.G
open Go Go.AM
section
variable {h : HC} {up : Nat → Nat} {set : Nat → Bool}
theorem BestOf.skip {A : List Nat} {best : Int} {q : Nat} (hB : BestOf h up set A best) (hq : set q = false) : BestOf h up set (A ++ [q]) best := by
  have hmem : ∀ x, x ∈ A ++ [q] → set x = true → x ∈ A := fun x hx hs => by
    rcases List.mem_append.1 hx with hx | hx
    · exact hx
    · rw [List.mem_singleton.1 hx, hq] at hs; cases hs
  rcases hB with ⟨h1, h2⟩ | ⟨b, h1, h2, ⟨q', h3, h4⟩, h5, h6⟩
  · refine .inl ⟨h1, fun x hx => ?_⟩
    rcases List.mem_append.1 hx with hx | hx
    · exact h2 x hx
    · rw [List.mem_singleton.1 hx]; exact hq
  · exact .inr ⟨b, h1, h2, ⟨q', List.mem_append.2 (.inl h3), h4⟩, fun x hx hs => h5 x (hmem x hx hs) hs, fun y hy => h6 y fun x hx hs => hy x (List.mem_append.2 (.inl hx)) hs⟩
theorem BestOf.first {A : List Nat} {q : Nat} (hA : ∀ x, x ∈ A → set x = false) (hq : set q = true) : BestOf h up set (A ++ [q]) q := by
  refine .inr ⟨q, rfl, hq, ⟨q, by simp, hq⟩, fun x hx hs => ?_, fun y hy => hy q (by simp) hq⟩
  rcases List.mem_append.1 hx with hx | hx
  · rw [hA x hx] at hs; cases hs
  · rw [List.mem_singleton.1 hx]; exact .refl _
theorem BestOf.meet {A : List Nat} {q b c : Nat} (hc : set c = true) (hbs : (∃ x, x ∈ A ∧ set x = true) ∧ (∀ x, x ∈ A → set x = true → An h.k up x b) ∧ ∀ y, (∀ x, x ∈ A → set x = true → An h.k up x y) → An h.k up b y) (hq : set q = true) (h1 : An h.k up b c) (h2 : An h.k up q c) (h3 : ∀ y, An h.k up b y → An h.k up q y → An h.k up c y) : BestOf h up set (A ++ [q]) c := by
  refine .inr ⟨c, rfl, hc, ⟨q, by simp, hq⟩, fun x hx hs => ?_, fun y hy => h3 y (hbs.2.2 y fun x hx hs => hy x (List.mem_append.2 (.inl hx)) hs) (hy q (by simp) hq)⟩
  rcases List.mem_append.1 hx with hx | hx
  · exact (hbs.2.1 x hx hs).trans h1
  · rw [List.mem_singleton.1 hx]; exact h2
end
/-- the memory in the rounds: M3 stays as it was. -/
structure ZM (M3 : Mem) (bu Pu capu : Nat) (exu : Bool) (M : Mem) (k : Nat) (up : Nat → Nat) (set : Nat → Bool) : Prop where
  gr : Grow M3 M
  u : M[bu]? = some (.cells true (intF (k + 1) (encU up set)))
  pu : M[Pu]? = some (.cells true [[.slice bu 0 (k + 1) capu exu 1]])
  cu : k + 1 ≤ capu
  o1 : M3.length ≤ bu
  o2 : bu < Pu
theorem encU_upd {up : Nat → Nat} {set : Nat → Bool} {p b : Nat} : upd (encU up set) p (b : Int) = encU (upd up p b) (upd set p true) := by
  funext x
  by_cases e : x = p
  · subst e; simp [encU, upd_self]
  · simp only [encU, upd_ne e]
theorem ZM.store {M3 M : Mem} {bu Pu capu k : Nat} {exu : Bool} {up : Nat → Nat} {set : Nat → Bool} (h : ZM M3 bu Pu capu exu M k up set) {p b : Nat} : ZM M3 bu Pu capu exu (M.set bu (.cells true (intF (k + 1) (upd (encU up set) p (b : Int))))) k (upd up p b) (upd set p true) := by
  rw [encU_upd]
  exact ⟨h.gr.set h.o1 _, set_self' h.u, set_get (by have := h.o2; omega) h.pu, h.cu, h.o1, h.o2⟩
theorem rounds {h : HC} {M3 M0 : Mem} {br Pr bu Pu F capr capu : Nat} {exr exu : Bool} {rkI : Nat → Int} {tv : Nat → V} {ov : V} {up0 : Nat → Nat} {set0 : Nat → Bool} {fr0 : Frame}
    (R : HR h) (hkn : h.k ≤ 4096) (hnd : h.L.Nodup) (hll : h.L.length ≤ 4096) (hpos : ∀ (j p : Nat), h.L[j]? = some p → h.rk p = j + 1) (hrk : ∀ x, x ∈ h.L ∨ x = h.k → rkI x = (h.rk x : Int) - 1)
    (hr3 : M3[br]? = some (.cells true (intF (h.k + 1) rkI))) (hpr3 : M3[Pr]? = some (.cells true [[.slice br 0 (h.k + 1) capr exr 1]])) (hov : Sl M3 ov 1 (nats h.L)) (hfs : Sl M3 (.slice F 0 h.k h.k true 1) 1 (vF h.k tv)) (hft : ∀ p, p < h.k → Sl M3 (tv p) 1 (nats (h.from' p))) (hfl : ∀ p, p < h.k → (h.from' p).length < 2 ^ 60)
    (hI0 : HI h up0 set0 1) (hZ0 : ZM M3 bu Pu capu exu M0 h.k up0 set0)
    (e3 : fr0 3 = .int .i64 (h.k : Nat)) (e4 : fr0 4 = ov) (e6 : fr0 6 = .slice F 0 h.k h.k true 1) (e13 : fr0 13 = .ptr Pu 0 0) (e14 : fr0 14 = .fn n_graph_net_holders_1 [] [.ptr Pr 0 0, .ptr Pu 0 0]) (e15 : fr0 15 = .bool true) :
    W S (.loop graph_net_holders_l3) fr0 M0 (fun e fr' M' => e = .exit 6 ∧ fr' 3 = .int .i64 (h.k : Nat) ∧ fr' 13 = .ptr Pu 0 0 ∧ ∃ up set, ZM M3 bu Pu capu exu M' h.k up set ∧ HI h up set 1 ∧ (∀ x, x ∈ h.L → set x = true) ∧ ∀ p, p ∈ h.L → Meet h up set p (up p)) := by
  have r0 : List.replicate 0 Blk.dead = [] := rfl
  have hovl := hov.len
  have hnl : (nats h.L).length = h.L.length := by simp
  rw [hnl] at hovl
  let fnV : V := .fn n_graph_net_holders_1 [] [.ptr Pr 0 0, .ptr Pu 0 0]
  let I := fun (n : Nat) (fr : Frame) (M : Mem) => ∃ (up : Nat → Nat) (set : Nat → Bool) (ch : Bool), n = 2 * phi h up set + (if ch then 1 else 0) ∧ fr 3 = .int .i64 (h.k : Nat) ∧ fr 4 = ov ∧ fr 6 = .slice F 0 h.k h.k true 1 ∧ fr 13 = .ptr Pu 0 0 ∧ fr 14 = fnV ∧ fr 15 = .bool ch ∧ ZM M3 bu Pu capu exu M h.k up set ∧ HI h up set 1 ∧ (ch = false → (∀ x, x ∈ h.L → set x = true) ∧ ∀ p, p ∈ h.L → Meet h up set p (up p))
  refine W_loop I ?_ _ (show I _ fr0 M0 from ⟨up0, set0, true, rfl, e3, e4, e6, e13, e14, e15, hZ0, hI0, fun h => by cases h⟩)
  rintro n fr M ⟨up, set, ch, rfl, f3, f4, f6, f13, f14, f15, hZ, hI, hfix⟩
  unfold graph_net_holders_l3
  cases ch with
  | false =>
    simp (maxDischargeDepth := 30) only [f3, f13, f15, amL, args0, Nat.reduceEqDiff, reduceCtorEq, ↓reduceIte, Nat.reduceAdd, resultsA, results1, Int.reduceNeg, splice, Nat.reduceLeDiff, part, fillA, fillE, Nat.reduceLT]
    obtain ⟨g1, g2⟩ := hfix rfl
    exact ⟨up, set, hZ, hI, g1, g2⟩
  | true =>
    simp (maxDischargeDepth := 30) only [f3, f4, f6, f13, f14, f15, hovl, amL, args0, Nat.reduceEqDiff, reduceCtorEq, ↓reduceIte, Nat.reduceAdd, resultsA, results1, Int.reduceNeg, splice, Nat.reduceLeDiff, part, fillA, fillE, Nat.reduceLT]
    let J := fun (n : Nat) (fr : Frame) (M : Mem) => ∃ (j : Nat) (up' : Nat → Nat) (set' : Nat → Bool) (ch' : Bool), j ≤ h.L.length ∧ n = h.L.length - j ∧ fr 3 = .int .i64 (h.k : Nat) ∧ fr 4 = ov ∧ fr 6 = .slice F 0 h.k h.k true 1 ∧ fr 13 = .ptr Pu 0 0 ∧ fr 14 = fnV ∧ fr 15 = .bool ch' ∧ fr 107 = ov ∧ fr 108 = .int .i64 h.L.length ∧ fr 109 = .int .i64 (j : Nat) ∧ ZM M3 bu Pu capu exu M h.k up' set' ∧ HI h up' set' (j + 1) ∧ ((ch' = false ∧ up' = up ∧ set' = set ∧ ∀ (t p : Nat), t < j → h.L[t]? = some p → set p = true ∧ Meet h up set p (up p)) ∨ (ch' = true ∧ phi h up' set' < phi h up set))
    refine W_loop J ?_ h.L.length ?_
    · clear f3 f4 f6 f13 f14 f15 fr hZ hI
      rintro n fr M' ⟨j, up', set', ch', hj, rfl, f3, f4, f6, f13, f14, f15, f107, f108, f109, hZ, hI, hor⟩
      unfold graph_net_holders_l4
      simp (maxDischargeDepth := 30) only [f3, f4, f6, f13, f14, f15, f107, f108, f109, amL, args0, Nat.reduceEqDiff, reduceCtorEq, ↓reduceIte, Nat.reduceAdd, resultsA, results1, Int.reduceNeg, splice, Nat.reduceLeDiff, part, fillA, fillE, Nat.reduceLT]
      by_cases hjl : j < h.L.length
      · have hjl' : (j : Int) < h.L.length := by omega
        obtain ⟨p, hp⟩ : ∃ p, h.L[j]? = some p := ⟨_, List.getElem?_eq_getElem hjl⟩
        have hpm := List.mem_of_getElem? hp
        have hpk := R.lt p hpm
        have hrp := hpos j p hp
        have hovM := hov.grow hZ.gr
        have ixo := hovM.index (ki := .i64) (n := j) (by omega) (by rw [hnl]; omega)
        have ldo := fun o k => hovM.load (o := o) (k := k) (nats_get hp)
        have hfsM := hfs.grow hZ.gr
        have ixf := hfsM.index (ki := .i64) (n := p) (by omega) (by rw [vF_len]; omega)
        have ldf := fun o k => hfsM.load (o := o) (k := k) (vF_get hpk)
        have htM := (hft p hpk).grow hZ.gr
        have htc := htM.cell
        have htl := htM.len
        have hpl : (nats (h.from' p)).length = (h.from' p).length := by simp
        rw [hpl] at htl
        simp only [Int.toNat_natCast] at ixo ixf
        have lU := fun k => load_at0 (k := k) (j := 0) hZ.pu
        have slU : Sl M' (.slice bu 0 (h.k + 1) capu exu 1) 1 (intF (h.k + 1) (encU up' set')) := by have := Sl.mk (cap := capu) (ex := exu) (z := 1) hZ.u; rwa [intF_len] at this
        have wj : IntKind.i64.wrap ((j : Int) + 1) = ((j + 1 : Nat) : Int) := by rw [wrap_i64] <;> omega
        have hfp := hfl p hpk
        have hUM : UM br Pr bu Pu capr capu exr exu M' h.k rkI up' set' := ⟨hZ.gr.get hr3, hZ.gr.get hpr3, hZ.u, hZ.pu, hZ.cu⟩
        simp (maxDischargeDepth := 30) only [hjl', f3, f4, f6, f13, f14, f15, f107, f108, f109, ixo, ldo, ixf, ldf, htc, htl, amL, args0, Nat.reduceEqDiff, reduceCtorEq, ↓reduceIte, Nat.reduceAdd, resultsA, results1, Int.reduceNeg, splice, Nat.reduceLeDiff, part, fillA, fillE, Nat.reduceLT]
        let K := fun (n : Nat) (fr : Frame) (M : Mem) => ∃ (t : Nat) (best : Int), t ≤ (h.from' p).length ∧ n = (h.from' p).length - t ∧ fr 3 = .int .i64 (h.k : Nat) ∧ fr 4 = ov ∧ fr 6 = .slice F 0 h.k h.k true 1 ∧ fr 13 = .ptr Pu 0 0 ∧ fr 14 = fnV ∧ fr 15 = .bool ch' ∧ fr 107 = ov ∧ fr 108 = .int .i64 h.L.length ∧ fr 109 = .int .i64 (j : Nat) ∧ fr 17 = .int .i64 (p : Nat) ∧ fr 18 = .int .i64 best ∧ fr 116 = tv p ∧ fr 117 = .int .i64 (h.from' p).length ∧ fr 118 = .int .i64 (t : Nat) ∧ M = M' ∧ BestOf h up' set' ((h.from' p).take t) best
        refine W_loop K ?_ (h.from' p).length ?_
        · clear f3 f4 f6 f13 f14 f15 f107 f108 f109 fr
          rintro n fr M ⟨t, best, ht, rfl, f3, f4, f6, f13, f14, f15, f107, f108, f109, f17, f18, f116, f117, f118, rfl, hB⟩
          unfold graph_net_holders_l5
          simp (maxDischargeDepth := 30) only [f3, f4, f6, f13, f14, f15, f107, f108, f109, f17, f18, f116, f117, f118, amL, args0, Nat.reduceEqDiff, reduceCtorEq, ↓reduceIte, Nat.reduceAdd, resultsA, results1, Int.reduceNeg, splice, Nat.reduceLeDiff, part, fillA, fillE, Nat.reduceLT]
          by_cases htl' : t < (h.from' p).length
          · have htl2 : (t : Int) < (h.from' p).length := by omega
            obtain ⟨q, hq⟩ : ∃ q, (h.from' p)[t]? = some q := ⟨_, List.getElem?_eq_getElem htl'⟩
            have hqm := List.mem_of_getElem? hq
            have hqk : q ≤ h.k := by rcases R.frm p q hpm hqm with h1 | h1; have := R.lt q h1; omega; omega
            have ixq := htM.index (ki := .i64) (n := t) (by omega) (by rw [hpl]; omega)
            have ldq := fun o k => htM.load (o := o) (k := k) (nats_get hq)
            have ixu := slU.index (ki := .i64) (n := q) (by omega) (by rw [intF_len]; omega)
            have ldu := fun o k => slU.load (o := o) (k := k) (intF_get (show q < h.k + 1 by omega))
            simp only [Int.toNat_natCast] at ixq ixu
            have wt : IntKind.i64.wrap ((t : Int) + 1) = ((t + 1 : Nat) : Int) := by rw [wrap_i64] <;> omega
            have htk : (h.from' p).take (t + 1) = (h.from' p).take t ++ [q] := by
              obtain ⟨a1, a2⟩ := List.getElem?_eq_some_iff.1 hq
              rw [List.take_succ_eq_append_getElem a1, a2]
            cases hsq : set' q with
            | false =>
              have he : encU up' set' q = -2 := by simp [encU, hsq]
              rw [he] at ldu
              simp (maxDischargeDepth := 30) only [htl2, f3, f4, f6, f13, f14, f15, f107, f108, f109, f17, f18, f116, f117, f118, ixq, ldq, lU, ixu, ldu, wt, amL, args0, Nat.reduceEqDiff, reduceCtorEq, ↓reduceIte, Nat.reduceAdd, resultsA, results1, Int.reduceNeg, splice, Nat.reduceLeDiff, part, fillA, fillE, Nat.reduceLT]
              refine ⟨_, ?_, t + 1, best, by omega, rfl, by simp (maxDischargeDepth := 30) only [f3, amL, args0, Nat.reduceEqDiff, reduceCtorEq, ↓reduceIte, Nat.reduceAdd, resultsA, results1, Int.reduceNeg, splice, Nat.reduceLeDiff, part, fillA, fillE, Nat.reduceLT], by simp (maxDischargeDepth := 30) only [f4, amL, args0, Nat.reduceEqDiff, reduceCtorEq, ↓reduceIte, Nat.reduceAdd, resultsA, results1, Int.reduceNeg, splice, Nat.reduceLeDiff, part, fillA, fillE, Nat.reduceLT], by simp (maxDischargeDepth := 30) only [f6, amL, args0, Nat.reduceEqDiff, reduceCtorEq, ↓reduceIte, Nat.reduceAdd, resultsA, results1, Int.reduceNeg, splice, Nat.reduceLeDiff, part, fillA, fillE, Nat.reduceLT], by simp (maxDischargeDepth := 30) only [f13, amL, args0, Nat.reduceEqDiff, reduceCtorEq, ↓reduceIte, Nat.reduceAdd, resultsA, results1, Int.reduceNeg, splice, Nat.reduceLeDiff, part, fillA, fillE, Nat.reduceLT], by simp (maxDischargeDepth := 30) only [f14, amL, args0, Nat.reduceEqDiff, reduceCtorEq, ↓reduceIte, Nat.reduceAdd, resultsA, results1, Int.reduceNeg, splice, Nat.reduceLeDiff, part, fillA, fillE, Nat.reduceLT], by simp (maxDischargeDepth := 30) only [f15, amL, args0, Nat.reduceEqDiff, reduceCtorEq, ↓reduceIte, Nat.reduceAdd, resultsA, results1, Int.reduceNeg, splice, Nat.reduceLeDiff, part, fillA, fillE, Nat.reduceLT], by simp (maxDischargeDepth := 30) only [f107, amL, args0, Nat.reduceEqDiff, reduceCtorEq, ↓reduceIte, Nat.reduceAdd, resultsA, results1, Int.reduceNeg, splice, Nat.reduceLeDiff, part, fillA, fillE, Nat.reduceLT], by simp (maxDischargeDepth := 30) only [f108, amL, args0, Nat.reduceEqDiff, reduceCtorEq, ↓reduceIte, Nat.reduceAdd, resultsA, results1, Int.reduceNeg, splice, Nat.reduceLeDiff, part, fillA, fillE, Nat.reduceLT], by simp (maxDischargeDepth := 30) only [f109, amL, args0, Nat.reduceEqDiff, reduceCtorEq, ↓reduceIte, Nat.reduceAdd, resultsA, results1, Int.reduceNeg, splice, Nat.reduceLeDiff, part, fillA, fillE, Nat.reduceLT], by simp (maxDischargeDepth := 30) only [f17, amL, args0, Nat.reduceEqDiff, reduceCtorEq, ↓reduceIte, Nat.reduceAdd, resultsA, results1, Int.reduceNeg, splice, Nat.reduceLeDiff, part, fillA, fillE, Nat.reduceLT], by simp (maxDischargeDepth := 30) only [f18, amL, args0, Nat.reduceEqDiff, reduceCtorEq, ↓reduceIte, Nat.reduceAdd, resultsA, results1, Int.reduceNeg, splice, Nat.reduceLeDiff, part, fillA, fillE, Nat.reduceLT], by simp (maxDischargeDepth := 30) only [f116, amL, args0, Nat.reduceEqDiff, reduceCtorEq, ↓reduceIte, Nat.reduceAdd, resultsA, results1, Int.reduceNeg, splice, Nat.reduceLeDiff, part, fillA, fillE, Nat.reduceLT], by simp (maxDischargeDepth := 30) only [f117, amL, args0, Nat.reduceEqDiff, reduceCtorEq, ↓reduceIte, Nat.reduceAdd, resultsA, results1, Int.reduceNeg, splice, Nat.reduceLeDiff, part, fillA, fillE, Nat.reduceLT], by simp (maxDischargeDepth := 30) only [amL, args0, Nat.reduceEqDiff, reduceCtorEq, ↓reduceIte, Nat.reduceAdd, resultsA, results1, Int.reduceNeg, splice, Nat.reduceLeDiff, part, fillA, fillE, Nat.reduceLT], rfl, by rw [htk]; exact hB.skip hsq⟩
              omega
            | true =>
              have he : encU up' set' q = (up' q : Nat) := by simp [encU, hsq]
              rw [he] at ldu
              have c2 : ¬ ((up' q : Nat) : Int) = -2 := by omega
              rcases hB with ⟨rfl, hno⟩ | ⟨b, rfl, hbs, hbr⟩
              · simp (maxDischargeDepth := 30) only [htl2, f3, f4, f6, f13, f14, f15, f107, f108, f109, f17, f18, f116, f117, f118, ixq, ldq, lU, ixu, ldu, c2, wt, amL, args0, Nat.reduceEqDiff, reduceCtorEq, ↓reduceIte, Nat.reduceAdd, resultsA, results1, Int.reduceNeg, splice, Nat.reduceLeDiff, part, fillA, fillE, Nat.reduceLT]
                refine ⟨_, ?_, t + 1, q, by omega, rfl, by simp (maxDischargeDepth := 30) only [f3, amL, args0, Nat.reduceEqDiff, reduceCtorEq, ↓reduceIte, Nat.reduceAdd, resultsA, results1, Int.reduceNeg, splice, Nat.reduceLeDiff, part, fillA, fillE, Nat.reduceLT], by simp (maxDischargeDepth := 30) only [f4, amL, args0, Nat.reduceEqDiff, reduceCtorEq, ↓reduceIte, Nat.reduceAdd, resultsA, results1, Int.reduceNeg, splice, Nat.reduceLeDiff, part, fillA, fillE, Nat.reduceLT], by simp (maxDischargeDepth := 30) only [f6, amL, args0, Nat.reduceEqDiff, reduceCtorEq, ↓reduceIte, Nat.reduceAdd, resultsA, results1, Int.reduceNeg, splice, Nat.reduceLeDiff, part, fillA, fillE, Nat.reduceLT], by simp (maxDischargeDepth := 30) only [f13, amL, args0, Nat.reduceEqDiff, reduceCtorEq, ↓reduceIte, Nat.reduceAdd, resultsA, results1, Int.reduceNeg, splice, Nat.reduceLeDiff, part, fillA, fillE, Nat.reduceLT], by simp (maxDischargeDepth := 30) only [f14, amL, args0, Nat.reduceEqDiff, reduceCtorEq, ↓reduceIte, Nat.reduceAdd, resultsA, results1, Int.reduceNeg, splice, Nat.reduceLeDiff, part, fillA, fillE, Nat.reduceLT], by simp (maxDischargeDepth := 30) only [f15, amL, args0, Nat.reduceEqDiff, reduceCtorEq, ↓reduceIte, Nat.reduceAdd, resultsA, results1, Int.reduceNeg, splice, Nat.reduceLeDiff, part, fillA, fillE, Nat.reduceLT], by simp (maxDischargeDepth := 30) only [f107, amL, args0, Nat.reduceEqDiff, reduceCtorEq, ↓reduceIte, Nat.reduceAdd, resultsA, results1, Int.reduceNeg, splice, Nat.reduceLeDiff, part, fillA, fillE, Nat.reduceLT], by simp (maxDischargeDepth := 30) only [f108, amL, args0, Nat.reduceEqDiff, reduceCtorEq, ↓reduceIte, Nat.reduceAdd, resultsA, results1, Int.reduceNeg, splice, Nat.reduceLeDiff, part, fillA, fillE, Nat.reduceLT], by simp (maxDischargeDepth := 30) only [f109, amL, args0, Nat.reduceEqDiff, reduceCtorEq, ↓reduceIte, Nat.reduceAdd, resultsA, results1, Int.reduceNeg, splice, Nat.reduceLeDiff, part, fillA, fillE, Nat.reduceLT], by simp (maxDischargeDepth := 30) only [f17, amL, args0, Nat.reduceEqDiff, reduceCtorEq, ↓reduceIte, Nat.reduceAdd, resultsA, results1, Int.reduceNeg, splice, Nat.reduceLeDiff, part, fillA, fillE, Nat.reduceLT], by simp (maxDischargeDepth := 30) only [amL, args0, Nat.reduceEqDiff, reduceCtorEq, ↓reduceIte, Nat.reduceAdd, resultsA, results1, Int.reduceNeg, splice, Nat.reduceLeDiff, part, fillA, fillE, Nat.reduceLT], by simp (maxDischargeDepth := 30) only [f116, amL, args0, Nat.reduceEqDiff, reduceCtorEq, ↓reduceIte, Nat.reduceAdd, resultsA, results1, Int.reduceNeg, splice, Nat.reduceLeDiff, part, fillA, fillE, Nat.reduceLT], by simp (maxDischargeDepth := 30) only [f117, amL, args0, Nat.reduceEqDiff, reduceCtorEq, ↓reduceIte, Nat.reduceAdd, resultsA, results1, Int.reduceNeg, splice, Nat.reduceLeDiff, part, fillA, fillE, Nat.reduceLT], by simp (maxDischargeDepth := 30) only [amL, args0, Nat.reduceEqDiff, reduceCtorEq, ↓reduceIte, Nat.reduceAdd, resultsA, results1, Int.reduceNeg, splice, Nat.reduceLeDiff, part, fillA, fillE, Nat.reduceLT], rfl, by rw [htk]; exact BestOf.first hno hsq⟩
                omega
              · have c3 : ¬ ((b : Nat) : Int) = -2 := by omega
                simp (maxDischargeDepth := 30) only [htl2, f3, f4, f6, f13, f14, f15, f107, f108, f109, f17, f18, f116, f117, f118, ixq, ldq, lU, ixu, ldu, c2, c3, wt, amL, args0, Nat.reduceEqDiff, reduceCtorEq, ↓reduceIte, Nat.reduceAdd, resultsA, results1, Int.reduceNeg, splice, Nat.reduceLeDiff, part, fillA, fillE, Nat.reduceLT]
                refine (meet_spec hUM hI R rfl hkn hrk hbs hsq).mono ?_
                rintro _ _ ⟨rfl, c, rfl, g1, g2, g3⟩
                simp (maxDischargeDepth := 30) only [aft_mk, f3, f4, f6, f13, f14, f15, f107, f108, f109, f17, f18, f116, f117, f118, wt, amL, args0, Nat.reduceEqDiff, reduceCtorEq, ↓reduceIte, Nat.reduceAdd, resultsA, results1, Int.reduceNeg, splice, Nat.reduceLeDiff, part, fillA, fillE, Nat.reduceLT]
                refine ⟨_, ?_, t + 1, c, by omega, rfl, by simp (maxDischargeDepth := 30) only [f3, amL, args0, Nat.reduceEqDiff, reduceCtorEq, ↓reduceIte, Nat.reduceAdd, resultsA, results1, Int.reduceNeg, splice, Nat.reduceLeDiff, part, fillA, fillE, Nat.reduceLT], by simp (maxDischargeDepth := 30) only [f4, amL, args0, Nat.reduceEqDiff, reduceCtorEq, ↓reduceIte, Nat.reduceAdd, resultsA, results1, Int.reduceNeg, splice, Nat.reduceLeDiff, part, fillA, fillE, Nat.reduceLT], by simp (maxDischargeDepth := 30) only [f6, amL, args0, Nat.reduceEqDiff, reduceCtorEq, ↓reduceIte, Nat.reduceAdd, resultsA, results1, Int.reduceNeg, splice, Nat.reduceLeDiff, part, fillA, fillE, Nat.reduceLT], by simp (maxDischargeDepth := 30) only [f13, amL, args0, Nat.reduceEqDiff, reduceCtorEq, ↓reduceIte, Nat.reduceAdd, resultsA, results1, Int.reduceNeg, splice, Nat.reduceLeDiff, part, fillA, fillE, Nat.reduceLT], by simp (maxDischargeDepth := 30) only [f14, amL, args0, Nat.reduceEqDiff, reduceCtorEq, ↓reduceIte, Nat.reduceAdd, resultsA, results1, Int.reduceNeg, splice, Nat.reduceLeDiff, part, fillA, fillE, Nat.reduceLT], by simp (maxDischargeDepth := 30) only [f15, amL, args0, Nat.reduceEqDiff, reduceCtorEq, ↓reduceIte, Nat.reduceAdd, resultsA, results1, Int.reduceNeg, splice, Nat.reduceLeDiff, part, fillA, fillE, Nat.reduceLT], by simp (maxDischargeDepth := 30) only [f107, amL, args0, Nat.reduceEqDiff, reduceCtorEq, ↓reduceIte, Nat.reduceAdd, resultsA, results1, Int.reduceNeg, splice, Nat.reduceLeDiff, part, fillA, fillE, Nat.reduceLT], by simp (maxDischargeDepth := 30) only [f108, amL, args0, Nat.reduceEqDiff, reduceCtorEq, ↓reduceIte, Nat.reduceAdd, resultsA, results1, Int.reduceNeg, splice, Nat.reduceLeDiff, part, fillA, fillE, Nat.reduceLT], by simp (maxDischargeDepth := 30) only [f109, amL, args0, Nat.reduceEqDiff, reduceCtorEq, ↓reduceIte, Nat.reduceAdd, resultsA, results1, Int.reduceNeg, splice, Nat.reduceLeDiff, part, fillA, fillE, Nat.reduceLT], by simp (maxDischargeDepth := 30) only [f17, amL, args0, Nat.reduceEqDiff, reduceCtorEq, ↓reduceIte, Nat.reduceAdd, resultsA, results1, Int.reduceNeg, splice, Nat.reduceLeDiff, part, fillA, fillE, Nat.reduceLT], by simp (maxDischargeDepth := 30) only [amL, args0, Nat.reduceEqDiff, reduceCtorEq, ↓reduceIte, Nat.reduceAdd, resultsA, results1, Int.reduceNeg, splice, Nat.reduceLeDiff, part, fillA, fillE, Nat.reduceLT], by simp (maxDischargeDepth := 30) only [f116, amL, args0, Nat.reduceEqDiff, reduceCtorEq, ↓reduceIte, Nat.reduceAdd, resultsA, results1, Int.reduceNeg, splice, Nat.reduceLeDiff, part, fillA, fillE, Nat.reduceLT], by simp (maxDischargeDepth := 30) only [f117, amL, args0, Nat.reduceEqDiff, reduceCtorEq, ↓reduceIte, Nat.reduceAdd, resultsA, results1, Int.reduceNeg, splice, Nat.reduceLeDiff, part, fillA, fillE, Nat.reduceLT], by simp (maxDischargeDepth := 30) only [amL, args0, Nat.reduceEqDiff, reduceCtorEq, ↓reduceIte, Nat.reduceAdd, resultsA, results1, Int.reduceNeg, splice, Nat.reduceLeDiff, part, fillA, fillE, Nat.reduceLT], rfl, by rw [htk]; exact BestOf.meet (hI.rk_le R g1 hbs).1 hbr hsq g1 g2 g3⟩
                omega
          · have htl2 : ¬ (t : Int) < (h.from' p).length := by omega
            have hte : t = (h.from' p).length := by omega
            rw [hte, List.take_length] at hB
            -- what all agree on
            have hex : ∃ b : Nat, best = b ∧ set' b = true ∧ Meet h up' set' p b := by
              rcases hB with ⟨_, hno⟩ | ⟨b, h1, h2, _, h4, h5⟩
              · exfalso
                obtain ⟨t', ht', hlt'⟩ := R.par p hpm
                have := hno t' ht'
                have hts : set' t' = true := by
                  rcases R.frm p t' hpm ht' with h1 | h1
                  · exact hI.early t' h1 (by omega)
                  · rw [h1]; exact hI.setk
                rw [hts] at this; cases this
              · exact ⟨b, h1, h2, h4, h5⟩
            obtain ⟨b, rfl, hbs, hmeet⟩ := hex
            obtain ⟨n1, n2, n3, n4⟩ := hI.next R hpm hrp hmeet
            have ixu := slU.index (ki := .i64) (n := p) (by omega) (by rw [intF_len]; omega)
            have ldu := fun o k => slU.load (o := o) (k := k) (intF_get (show p < h.k + 1 by omega))
            have stu := store_own (n := 1) (len := h.k + 1) (cap := capu) (z := 1) (ex := exu) (x := .int .i64 (b : Int)) hZ.u (intF_get (show p < h.k + 1 by omega)) rfl rfl rfl
            simp only [Int.toNat_natCast] at ixu
            simp only [V.cells, intF_set] at stu
            by_cases hsame : set' p = true ∧ up' p = b
            · obtain ⟨hs1, hs2⟩ := hsame
              have he : encU up' set' p = (b : Nat) := by simp [encU, hs1, hs2]
              rw [he] at ldu
              have c1 : ¬ ¬ ((b : Nat) : Int) = b := fun e => e rfl
              have u1 : upd up' p b = up' := by funext x; by_cases e : x = p; subst e; rw [upd_self, hs2]; rw [upd_ne e]
              have u2 : upd set' p true = set' := by funext x; by_cases e : x = p; subst e; rw [upd_self, hs1]; rw [upd_ne e]
              rw [u1, u2] at n1
              simp (maxDischargeDepth := 30) only [htl2, f3, f4, f6, f13, f14, f15, f107, f108, f109, f17, f18, f116, f117, f118, lU, ixu, ldu, c1, wj, amL, args0, Nat.reduceEqDiff, reduceCtorEq, ↓reduceIte, Nat.reduceAdd, resultsA, results1, Int.reduceNeg, splice, Nat.reduceLeDiff, part, fillA, fillE, Nat.reduceLT]
              refine ⟨_, ?_, j + 1, up', set', ch', by omega, rfl, by simp (maxDischargeDepth := 30) only [f3, amL, args0, Nat.reduceEqDiff, reduceCtorEq, ↓reduceIte, Nat.reduceAdd, resultsA, results1, Int.reduceNeg, splice, Nat.reduceLeDiff, part, fillA, fillE, Nat.reduceLT], by simp (maxDischargeDepth := 30) only [f4, amL, args0, Nat.reduceEqDiff, reduceCtorEq, ↓reduceIte, Nat.reduceAdd, resultsA, results1, Int.reduceNeg, splice, Nat.reduceLeDiff, part, fillA, fillE, Nat.reduceLT], by simp (maxDischargeDepth := 30) only [f6, amL, args0, Nat.reduceEqDiff, reduceCtorEq, ↓reduceIte, Nat.reduceAdd, resultsA, results1, Int.reduceNeg, splice, Nat.reduceLeDiff, part, fillA, fillE, Nat.reduceLT], by simp (maxDischargeDepth := 30) only [f13, amL, args0, Nat.reduceEqDiff, reduceCtorEq, ↓reduceIte, Nat.reduceAdd, resultsA, results1, Int.reduceNeg, splice, Nat.reduceLeDiff, part, fillA, fillE, Nat.reduceLT], by simp (maxDischargeDepth := 30) only [f14, amL, args0, Nat.reduceEqDiff, reduceCtorEq, ↓reduceIte, Nat.reduceAdd, resultsA, results1, Int.reduceNeg, splice, Nat.reduceLeDiff, part, fillA, fillE, Nat.reduceLT], by simp (maxDischargeDepth := 30) only [f15, amL, args0, Nat.reduceEqDiff, reduceCtorEq, ↓reduceIte, Nat.reduceAdd, resultsA, results1, Int.reduceNeg, splice, Nat.reduceLeDiff, part, fillA, fillE, Nat.reduceLT], by simp (maxDischargeDepth := 30) only [f107, amL, args0, Nat.reduceEqDiff, reduceCtorEq, ↓reduceIte, Nat.reduceAdd, resultsA, results1, Int.reduceNeg, splice, Nat.reduceLeDiff, part, fillA, fillE, Nat.reduceLT], by simp (maxDischargeDepth := 30) only [f108, amL, args0, Nat.reduceEqDiff, reduceCtorEq, ↓reduceIte, Nat.reduceAdd, resultsA, results1, Int.reduceNeg, splice, Nat.reduceLeDiff, part, fillA, fillE, Nat.reduceLT], by simp (maxDischargeDepth := 30) only [amL, args0, Nat.reduceEqDiff, reduceCtorEq, ↓reduceIte, Nat.reduceAdd, resultsA, results1, Int.reduceNeg, splice, Nat.reduceLeDiff, part, fillA, fillE, Nat.reduceLT], hZ, n1, ?_⟩
              · omega
              · rcases hor with ⟨o1, o2, o3, o4⟩ | o1
                · refine .inl ⟨o1, o2, o3, fun t' p' ht' hp' => ?_⟩
                  by_cases e : t' = j
                  · rw [e, hp] at hp'
                    cases hp'
                    subst o2 o3
                    rw [hs2]
                    exact ⟨hs1, hmeet⟩
                  · exact o4 t' p' (by omega) hp'
                · exact .inr o1
            · have c1 : ¬ ((b : Nat) : Int) = encU up' set' p := fun e => by
                refine hsame ?_
                unfold encU at e
                cases hs : set' p with
                | false => rw [hs] at e; simp at e
                | true => rw [hs] at e; simp at e; exact ⟨rfl, by omega⟩
              have hphi : phi h (upd up' p b) (upd set' p true) < phi h up' set' := phi_upd hnd hpm n3 (by rw [hrp]; omega) fun hs => by
                have g := n4 hs
                have h1 := (hI.up_set p hpm hs).1
                obtain ⟨_, h2, h3⟩ := hI.rk_le R g h1
                have : h.rk b ≠ h.rk (up' p) := fun e => hsame ⟨hs, (h3 e).symm⟩
                omega
              simp (maxDischargeDepth := 30) only [htl2, f3, f4, f6, f13, f14, f15, f107, f108, f109, f17, f18, f116, f117, f118, lU, ixu, ldu, c1, stu, wj, amL, args0, Nat.reduceEqDiff, reduceCtorEq, ↓reduceIte, Nat.reduceAdd, resultsA, results1, Int.reduceNeg, splice, Nat.reduceLeDiff, part, fillA, fillE, Nat.reduceLT]
              refine ⟨_, ?_, j + 1, _, _, true, by omega, rfl, by simp (maxDischargeDepth := 30) only [f3, amL, args0, Nat.reduceEqDiff, reduceCtorEq, ↓reduceIte, Nat.reduceAdd, resultsA, results1, Int.reduceNeg, splice, Nat.reduceLeDiff, part, fillA, fillE, Nat.reduceLT], by simp (maxDischargeDepth := 30) only [f4, amL, args0, Nat.reduceEqDiff, reduceCtorEq, ↓reduceIte, Nat.reduceAdd, resultsA, results1, Int.reduceNeg, splice, Nat.reduceLeDiff, part, fillA, fillE, Nat.reduceLT], by simp (maxDischargeDepth := 30) only [f6, amL, args0, Nat.reduceEqDiff, reduceCtorEq, ↓reduceIte, Nat.reduceAdd, resultsA, results1, Int.reduceNeg, splice, Nat.reduceLeDiff, part, fillA, fillE, Nat.reduceLT], by simp (maxDischargeDepth := 30) only [f13, amL, args0, Nat.reduceEqDiff, reduceCtorEq, ↓reduceIte, Nat.reduceAdd, resultsA, results1, Int.reduceNeg, splice, Nat.reduceLeDiff, part, fillA, fillE, Nat.reduceLT], by simp (maxDischargeDepth := 30) only [f14, amL, args0, Nat.reduceEqDiff, reduceCtorEq, ↓reduceIte, Nat.reduceAdd, resultsA, results1, Int.reduceNeg, splice, Nat.reduceLeDiff, part, fillA, fillE, Nat.reduceLT], by simp (maxDischargeDepth := 30) only [amL, args0, Nat.reduceEqDiff, reduceCtorEq, ↓reduceIte, Nat.reduceAdd, resultsA, results1, Int.reduceNeg, splice, Nat.reduceLeDiff, part, fillA, fillE, Nat.reduceLT], by simp (maxDischargeDepth := 30) only [f107, amL, args0, Nat.reduceEqDiff, reduceCtorEq, ↓reduceIte, Nat.reduceAdd, resultsA, results1, Int.reduceNeg, splice, Nat.reduceLeDiff, part, fillA, fillE, Nat.reduceLT], by simp (maxDischargeDepth := 30) only [f108, amL, args0, Nat.reduceEqDiff, reduceCtorEq, ↓reduceIte, Nat.reduceAdd, resultsA, results1, Int.reduceNeg, splice, Nat.reduceLeDiff, part, fillA, fillE, Nat.reduceLT], by simp (maxDischargeDepth := 30) only [amL, args0, Nat.reduceEqDiff, reduceCtorEq, ↓reduceIte, Nat.reduceAdd, resultsA, results1, Int.reduceNeg, splice, Nat.reduceLeDiff, part, fillA, fillE, Nat.reduceLT], hZ.store, n1, ?_⟩
              · omega
              · rcases hor with ⟨o1, o2, o3, o4⟩ | ⟨o1, o2⟩
                · subst o2 o3
                  exact .inr ⟨rfl, hphi⟩
                · exact .inr ⟨rfl, by omega⟩
        · exact ⟨0, -2, Nat.zero_le _, rfl, by simp (maxDischargeDepth := 30) only [f3, amL, args0, Nat.reduceEqDiff, reduceCtorEq, ↓reduceIte, Nat.reduceAdd, resultsA, results1, Int.reduceNeg, splice, Nat.reduceLeDiff, part, fillA, fillE, Nat.reduceLT], by simp (maxDischargeDepth := 30) only [f4, amL, args0, Nat.reduceEqDiff, reduceCtorEq, ↓reduceIte, Nat.reduceAdd, resultsA, results1, Int.reduceNeg, splice, Nat.reduceLeDiff, part, fillA, fillE, Nat.reduceLT], by simp (maxDischargeDepth := 30) only [f6, amL, args0, Nat.reduceEqDiff, reduceCtorEq, ↓reduceIte, Nat.reduceAdd, resultsA, results1, Int.reduceNeg, splice, Nat.reduceLeDiff, part, fillA, fillE, Nat.reduceLT], by simp (maxDischargeDepth := 30) only [f13, amL, args0, Nat.reduceEqDiff, reduceCtorEq, ↓reduceIte, Nat.reduceAdd, resultsA, results1, Int.reduceNeg, splice, Nat.reduceLeDiff, part, fillA, fillE, Nat.reduceLT], by simp (maxDischargeDepth := 30) only [f14, amL, args0, Nat.reduceEqDiff, reduceCtorEq, ↓reduceIte, Nat.reduceAdd, resultsA, results1, Int.reduceNeg, splice, Nat.reduceLeDiff, part, fillA, fillE, Nat.reduceLT], by simp (maxDischargeDepth := 30) only [f15, amL, args0, Nat.reduceEqDiff, reduceCtorEq, ↓reduceIte, Nat.reduceAdd, resultsA, results1, Int.reduceNeg, splice, Nat.reduceLeDiff, part, fillA, fillE, Nat.reduceLT], by simp (maxDischargeDepth := 30) only [f107, amL, args0, Nat.reduceEqDiff, reduceCtorEq, ↓reduceIte, Nat.reduceAdd, resultsA, results1, Int.reduceNeg, splice, Nat.reduceLeDiff, part, fillA, fillE, Nat.reduceLT], by simp (maxDischargeDepth := 30) only [f108, amL, args0, Nat.reduceEqDiff, reduceCtorEq, ↓reduceIte, Nat.reduceAdd, resultsA, results1, Int.reduceNeg, splice, Nat.reduceLeDiff, part, fillA, fillE, Nat.reduceLT], by simp (maxDischargeDepth := 30) only [f109, amL, args0, Nat.reduceEqDiff, reduceCtorEq, ↓reduceIte, Nat.reduceAdd, resultsA, results1, Int.reduceNeg, splice, Nat.reduceLeDiff, part, fillA, fillE, Nat.reduceLT], by simp (maxDischargeDepth := 30) only [amL, args0, Nat.reduceEqDiff, reduceCtorEq, ↓reduceIte, Nat.reduceAdd, resultsA, results1, Int.reduceNeg, splice, Nat.reduceLeDiff, part, fillA, fillE, Nat.reduceLT], by simp (maxDischargeDepth := 30) only [amL, args0, Nat.reduceEqDiff, reduceCtorEq, ↓reduceIte, Nat.reduceAdd, resultsA, results1, Int.reduceNeg, splice, Nat.reduceLeDiff, part, fillA, fillE, Nat.reduceLT], by simp (maxDischargeDepth := 30) only [amL, args0, Nat.reduceEqDiff, reduceCtorEq, ↓reduceIte, Nat.reduceAdd, resultsA, results1, Int.reduceNeg, splice, Nat.reduceLeDiff, part, fillA, fillE, Nat.reduceLT], by simp (maxDischargeDepth := 30) only [amL, args0, Nat.reduceEqDiff, reduceCtorEq, ↓reduceIte, Nat.reduceAdd, resultsA, results1, Int.reduceNeg, splice, Nat.reduceLeDiff, part, fillA, fillE, Nat.reduceLT], by simp (maxDischargeDepth := 30) only [amL, args0, Nat.reduceEqDiff, reduceCtorEq, ↓reduceIte, Nat.reduceAdd, resultsA, results1, Int.reduceNeg, splice, Nat.reduceLeDiff, part, fillA, fillE, Nat.reduceLT]; rfl, rfl, .inl ⟨rfl, fun q hq => by simp at hq⟩⟩
      · have hjl' : ¬ (j : Int) < h.L.length := by omega
        have hje : j = h.L.length := by omega
        have hrkl : ∀ x, x ∈ h.L → h.rk x < j + 1 := fun x hx => by
          obtain ⟨t, ht⟩ := List.getElem?_of_mem hx
          have := hpos t x ht
          have := (List.getElem?_eq_some_iff.1 ht).1
          omega
        simp (maxDischargeDepth := 30) only [hjl', f3, f4, f6, f13, f14, f15, f107, f108, f109, amL, args0, Nat.reduceEqDiff, reduceCtorEq, ↓reduceIte, Nat.reduceAdd, resultsA, results1, Int.reduceNeg, splice, Nat.reduceLeDiff, part, fillA, fillE, Nat.reduceLT]
        have hIr := hI.round R hrkl
        refine ⟨_, ?_, up', set', ch', rfl, f3, f4, f6, f13, f14, f15, hZ, hIr, fun hc => ?_⟩
        · rcases hor with ⟨o1, o2, o3, _⟩ | ⟨o1, o2⟩
          · subst o1 o2 o3; simp
          · subst o1; simp; omega
        · rcases hor with ⟨o1, o2, o3, o4⟩ | ⟨o1, o2⟩
          · subst o2 o3
            refine ⟨fun x hx => hI.early x hx (hrkl x hx), fun p hp => ?_⟩
            obtain ⟨t, ht⟩ := List.getElem?_of_mem hp
            exact (o4 t p (by have := (List.getElem?_eq_some_iff.1 ht).1; omega) ht).2
          · rw [o1] at hc; cases hc
    · exact ⟨0, up, set, false, Nat.zero_le _, rfl, by simp (maxDischargeDepth := 30) only [f3, amL, args0, Nat.reduceEqDiff, reduceCtorEq, ↓reduceIte, Nat.reduceAdd, resultsA, results1, Int.reduceNeg, splice, Nat.reduceLeDiff, part, fillA, fillE, Nat.reduceLT], by simp (maxDischargeDepth := 30) only [f4, amL, args0, Nat.reduceEqDiff, reduceCtorEq, ↓reduceIte, Nat.reduceAdd, resultsA, results1, Int.reduceNeg, splice, Nat.reduceLeDiff, part, fillA, fillE, Nat.reduceLT], by simp (maxDischargeDepth := 30) only [f6, amL, args0, Nat.reduceEqDiff, reduceCtorEq, ↓reduceIte, Nat.reduceAdd, resultsA, results1, Int.reduceNeg, splice, Nat.reduceLeDiff, part, fillA, fillE, Nat.reduceLT], by simp (maxDischargeDepth := 30) only [f13, amL, args0, Nat.reduceEqDiff, reduceCtorEq, ↓reduceIte, Nat.reduceAdd, resultsA, results1, Int.reduceNeg, splice, Nat.reduceLeDiff, part, fillA, fillE, Nat.reduceLT], by simp (maxDischargeDepth := 30) only [f14, amL, args0, Nat.reduceEqDiff, reduceCtorEq, ↓reduceIte, Nat.reduceAdd, resultsA, results1, Int.reduceNeg, splice, Nat.reduceLeDiff, part, fillA, fillE, Nat.reduceLT], by simp (maxDischargeDepth := 30) only [amL, args0, Nat.reduceEqDiff, reduceCtorEq, ↓reduceIte, Nat.reduceAdd, resultsA, results1, Int.reduceNeg, splice, Nat.reduceLeDiff, part, fillA, fillE, Nat.reduceLT], by simp (maxDischargeDepth := 30) only [amL, args0, Nat.reduceEqDiff, reduceCtorEq, ↓reduceIte, Nat.reduceAdd, resultsA, results1, Int.reduceNeg, splice, Nat.reduceLeDiff, part, fillA, fillE, Nat.reduceLT], by simp (maxDischargeDepth := 30) only [amL, args0, Nat.reduceEqDiff, reduceCtorEq, ↓reduceIte, Nat.reduceAdd, resultsA, results1, Int.reduceNeg, splice, Nat.reduceLeDiff, part, fillA, fillE, Nat.reduceLT], by simp (maxDischargeDepth := 30) only [amL, args0, Nat.reduceEqDiff, reduceCtorEq, ↓reduceIte, Nat.reduceAdd, resultsA, results1, Int.reduceNeg, splice, Nat.reduceLeDiff, part, fillA, fillE, Nat.reduceLT]; rfl, hZ, hI, .inl ⟨rfl, rfl, rfl, fun t p ht => absurd ht (Nat.not_lt_zero _)⟩⟩
end Go.AM.G
