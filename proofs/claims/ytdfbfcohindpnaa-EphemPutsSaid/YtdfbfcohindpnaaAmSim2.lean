/- More stepping: what a region kept, what was looked at behind an append, a function value. -/
import Derived.Test.YtdfbfcohindpnaaAmSim
set_option linter.unusedVariables false
set_option linter.unusedSimpArgs false
namespace Go.AM
open Go
section
variable {S : Sys} {base : Nat} {d : Option Nat} {t : Option Nat} {r : List AOper} {fr : Frame} {m : Mem} {K : Frame → Mem → Prop}
theorem O_bsliceAt {z : List V} {n k : Nat} {ps} : O S base (⟨d, none, .bslice z n ps, some k, []⟩ :: r) fr m K ↔ m[base + k]? = some .dead ∧ ∃ els, fillE (List.replicate n z) z.length (ps.map fun (i, x) => (i, x.get fr)) = some els ∧ O S base r (putO fr d (.slice (base + k) 0 n n true z.length)) (m.set (base + k) (.cells true els)) K := by
  rw [O_prim rfl]
  simp only [prim, newBlk, chkOk, List.all_nil, Option.map_some, Option.bind_eq_some_iff]
  constructor
  · rintro ⟨v, m', ⟨els, h1, h3⟩, _, h2⟩
    split at h3
    · rename_i hd
      simp only [Option.map_some, Option.some.injEq, Prod.mk.injEq] at h3
      obtain ⟨rfl, rfl⟩ := h3
      exact ⟨hd, _, h1, h2⟩
    · cases h3
  · rintro ⟨hd, els, h1, h2⟩
    exact ⟨_, _, ⟨els, h1, by rw [hd]; rfl⟩, trivial, h2⟩
theorem O_appendC {z : List V} {n e : Nat} {k : Option Nat} {x y a : Arg} : O S base (⟨d, none, .append z n x y, t, [(none, (e, (k, a)))]⟩ :: r) fr m K ↔ ∃ v m', appendV m z n (x.get fr) (y.get fr) = some (v, m') ∧ (∃ u, loadV m' k (a.get fr) = some u ∧ V.beq u (fr e) = true) ∧ O S base r (putO fr d v) m' K := by
  rw [O_prim rfl]
  simp only [prim, chkOk, List.all_cons, List.all_nil, wantedA, Bool.not_true, Bool.false_or, Bool.and_true]
  constructor
  · rintro ⟨v, m', h1, h3, h2⟩
    refine ⟨v, m', h1, ?_, h2⟩
    split at h3
    · rename_i u hu
      exact ⟨u, hu, h3⟩
    · cases h3
  · rintro ⟨v, m', h1, ⟨u, hu, h3⟩, h2⟩
    exact ⟨v, m', h1, by rw [hu]; exact h3, h2⟩
/-- what follows a call, behind which something is looked at. -/
def aftC (S : Sys) (base : Nat) (l : List (Option (Nat × Bool) × Nat × Option Nat × Arg)) (r : List AOper) (fr : Frame) (d : Option Nat) (K : Frame → Mem → Prop) (v : V) (m : Mem) : Prop := chkOk l fr m = true ∧ O S base r (putO fr d v) m K
theorem aftC_mk {l} {v : V} : aftC S base l r fr d K v m = (chkOk l fr m = true ∧ O S base r (putO fr d v) m K) := rfl
theorem O_callC {as : List Arg} {g : Nat} {first cap : List V} {c} {l} :
    O S base (⟨d, none, .call (.c (.fn g first cap)) as, t, c :: l⟩ :: r) fr m K ↔ C S g (first ++ (as.map (·.get fr) ++ cap)) m (aftC S base (c :: l) r fr d K) := by
  rw [O_call (g := g) (first := first) (cap := cap) rfl]
  exact Iff.rfl
/-- a call of a function value. -/
def CV (S : Sys) (v : V) (args : List V) (m : Mem) (Q : V → Mem → Prop) : Prop :=
  match v with
  | .fn g first cap => C S g (first ++ (args ++ cap)) m Q
  | _ => False
theorem CV_fn {g : Nat} {first cap args : List V} {Q : V → Mem → Prop} : CV S (.fn g first cap) args m Q = C S g (first ++ (args ++ cap)) m Q := rfl
theorem O_callT {i : Nat} {as : List Arg} : O S base (⟨d, none, .call (.t i) as, t, []⟩ :: r) fr m K ↔ CV S (fr i) (as.map (·.get fr)) m (aft S base r fr d K) := by
  cases h : fr i with
  | fn g first cap =>
    rw [O_call (f := .t i) (g := g) (first := first) (cap := cap) (by rw [get_t]; exact h)]
    simp only [chkOk, List.all_nil, true_and]
    exact Iff.rfl
  | _ => simp [O, runOps, run1, wantedA, step, h, CV, Arg.get]
end
theorem beq_int {k : IntKind} {n : Int} : V.beq (.int k n) (.int k n) = true := by simp [V.beq]
end Go.AM
