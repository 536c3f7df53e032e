/- The law's own question lives() is answered by true: by reckoning; the seat's table is sound. -/
import Derived.Test.YtnpefpiggklimaaGreatHbC
set_option linter.unusedVariables false
set_option linter.unusedSimpArgs false
set_option maxRecDepth 1000000
namespace Go.AM.G
open Go Go.AM Go.Proofs
theorem tObj_fr {call : CallF} (hc : FrameC call) {a : List V} {m m' : Mem} {v : V} {id : Nat} {blk : Blk} (hd : m[id]? = some .dead) (e : tObj call a m = some (v, m')) : m'[id]? = some .dead ∧ tObj call a (m.set id blk) = some (v, m'.set id blk) := by
  unfold tObj at e ⊢
  split at e
  case isFalse => cases e
  rename_i hi
  rw [if_pos hi]
  cases hcall : call n_heap_open a m with
  | none => rw [hcall] at e; cases e
  | some y =>
    obtain ⟨v1, m1⟩ := y
    rw [hcall] at e
    obtain ⟨hd1, hc1⟩ := hc _ _ _ _ _ id blk hd hcall
    rw [hc1]
    split at e
    · rename_i k m2 heq
      simp only [Option.some.injEq, Prod.mk.injEq] at heq
      obtain ⟨rfl, rfl⟩ := heq
      split at e
      · cases e
      rename_i hk
      cases e
      exact ⟨hd1, by simp only [if_neg hk]⟩
    · rename_i P m2 heq
      simp only [Option.some.injEq, Prod.mk.injEq] at heq
      obtain ⟨rfl, rfl⟩ := heq
      split at e
      case h_2 => cases e
      rename_i own s0 s1 s2 s3 ov hP
      split at e
      case h_2 => cases e
      rename_i els hels
      split at e
      case isFalse => cases e
      rename_i hall
      simp only [(get_fr (blk := blk) hd1 hP).2, elems_fr (blk := blk) hd1 hels, if_pos hall]
      cases hcv : curV els with
      | nil =>
        rw [hcv] at e
        cases e
        exact ⟨hd1, rfl⟩
      | cons x r =>
        rw [hcv] at e
        cases e
        have := push_fr (blk := blk) hd1 [.cells true (x :: r)]
        exact ⟨this.1, by simp only [List.length_set, this.2]⟩
    · cases e
theorem Xfr0 : ToldFr X0 := by
  intro f t h call hc a m v m' id blk hd e
  unfold X0 at h
  split at h
  · cases h
    dsimp only at e ⊢
    obtain ⟨n, rfl, h0, h1, rfl, rfl⟩ := tLen_some e
    exact ⟨hd, by simp only [tLen]; rw [if_pos ⟨h0, h1⟩]⟩
  split at h
  · cases h
    dsimp only at e ⊢
    rcases tSortI_some e with ⟨rfl, rfl, rfl⟩ | ⟨b, cap, ex, els, d, rfl, hb, h3, h4, rfl, rfl⟩
    · exact ⟨hd, rfl⟩
    have hne : b ≠ id := by
      rintro rfl
      rw [hd] at hb
      cases hb
    refine ⟨by rw [List.getElem?_set_ne hne]; exact hd, ?_⟩
    rw [tSortI_eq (by rw [List.getElem?_set_ne (Ne.symm hne)]; exact hb) h3 h4, List.set_comm _ _ hne]
  split at h
  · cases h
    exact tObj_fr hc hd e
  · cases h
theorem Xfr : ToldFr X := by
  intro f t h call hc a m v m' id blk hd e
  unfold X at h
  split at h
  · cases h
    dsimp only at e ⊢
    cases a with
    | nil => cases e; exact ⟨hd, rfl⟩
    | cons x y => cases e
  · exact Xfr0 f t h call hc a m v m' id blk hd e
def isT : Option (V × Mem) → Bool
  | some (.bool true, _) => true
  | _ => false
set_option maxHeartbeats 0 in
theorem lives_run : isT (callN (fun f => tab.lookup f) X0 60 n_law31_lives [] []) = true := by kernel_rfl
end Go.AM.G
