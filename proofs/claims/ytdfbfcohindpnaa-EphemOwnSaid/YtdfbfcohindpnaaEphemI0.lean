/- Part of the proof: contracts of functions of the given program on an abstract machine. -/
import Derived.Test.YtdfbfcohindpnaaEphemH
import Derived.Test.YtdfbfcohindpnaaAmDraw3
set_option linter.unusedVariables false
set_option linter.unusedSimpArgs false
set_option maxRecDepth 1000000
namespace Go.AM.G
open Go Go.AM
theorem Xfr : ToldFr X := by
  intro f t h call _ a m v m' id blk hd e
  unfold X at h
  split at h
  · cases h
    dsimp only at e ⊢
    split at e
    · split at e
      · rename_i hb
        cases e
        exact ⟨hd, by simp only [if_pos hb]⟩
      · cases e
    · cases e
  · cases h
def isT : Option (V × Mem) → Bool
  | some (.bool true, _) => true
  | _ => false
set_option maxHeartbeats 0 in
theorem lives_run : isT (callN S.F S.X 70 n_law10_lives [] (List.replicate 2 .dead)) = true := by kernel_rfl
theorem lives_spec2 {m : Mem} (hm : m.length = 2) : C S n_law10_lives [] m (fun r m' => r = .bool true ∧ Grow m m') := by
  have h := lives_run
  obtain ⟨a, b, rfl⟩ : ∃ a b, m = [a, b] := by
    match m, hm with
    | [a, b], _ => exact ⟨a, b, rfl⟩
  cases hc : callN S.F S.X 70 n_law10_lives [] (List.replicate 2 .dead) with
  | none => rw [hc] at h; cases h
  | some p =>
    obtain ⟨v, m1⟩ := p
    rw [hc] at h
    have hv : v = .bool true := by
      unfold isT at h
      split at h
      · rename_i e; cases e; rfl
      · cases h
    subst hv
    have fr := callN_fr tableOk Xfr 70
    obtain ⟨d0, r0⟩ := fr _ _ _ _ _ 0 a rfl hc
    obtain ⟨d1, r1⟩ := fr _ _ _ _ _ 1 b rfl r0
    have d0' := fr _ _ _ _ _ 1 b rfl hc
    refine ⟨70, _, _, r1, rfl, ?_⟩
    match m1, d0, d0'.1 with
    | x :: y :: g, _, _ => exact ⟨g, rfl⟩
    | [x], _, h => simp at h
    | [], h, _ => simp at h
end Go.AM.G
