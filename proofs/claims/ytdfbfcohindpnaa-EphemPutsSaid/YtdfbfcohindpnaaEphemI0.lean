/- Part of the proof: contracts of functions of the given program on an abstract machine. -/
import Derived.Test.YtdfbfcohindpnaaEphemH
import Derived.Test.YtdfbfcohindpnaaAmDraw3
set_option linter.unusedVariables false
set_option linter.unusedSimpArgs false
set_option maxRecDepth 1000000
namespace Go.AM.G
open Go Go.AM
theorem Xfr0 : ToldFr X0 := by
  intro f t h call _ a m v m' id blk hd e
  unfold X0 at h
  split at h
  · cases h
    dsimp only at e ⊢
    split at e
    · split at e
      · rename_i hb
        cases e
        exact ⟨hd, by simp only [if_pos hb]⟩
      · cases e
    · cases e
  · cases h
theorem tSort_some {a : List V} {m : Mem} {v : V} {m' : Mem} (e : tSort a m = some (v, m')) : (a = [.nils, .fn n_ephem_All_2 [] []] ∧ v = .tup [] ∧ m' = m) ∨ ∃ b cap ex g els d, a = [.slice b 0 (List.length d) cap ex 3, .fn g [] []] ∧ m[b]? = some (.cells true els) ∧ g = n_ephem_All_2 ∧ d.length < 4611686018427387904 ∧ els.take d.length = encs d ∧ v = .tup [] ∧ m' = m.set b (.cells true (encs (srtL d) ++ els.drop d.length)) := by
  unfold tSort at e
  split at e
  · rename_i m0 b len cap ex g
    split at e
    · rename_i els hb
      split at e
      · rename_i hc
        obtain ⟨h1, h2, h3, h4⟩ := hc
        cases e
        have hl : ((els.take len).map dec).length = len := by simp; omega
        have he : encs ((els.take len).map dec) = els.take len := by
          rw [encs, List.map_map]
          conv => rhs; rw [← List.map_id (els.take len)]
          refine List.map_congr_left fun el hel => ?_
          exact enc_dec (List.all_eq_true.1 h4 el hel)
        exact .inr ⟨b, cap, ex, g, els, (els.take len).map dec, by rw [hl], hb, h1, by rw [hl]; exact h3, by rw [hl, he], rfl, by rw [hl]⟩
      · cases e
    · cases e
  · split at e
    · rename_i hg
      cases e
      exact .inl ⟨by rw [hg], rfl, rfl⟩
    · cases e
  · cases e
theorem tSort_eq {b cap : Nat} {ex : Bool} {els : List (List V)} {d : List Slot} {m : Mem} (hb : m[b]? = some (.cells true els)) (hd : d.length < 4611686018427387904) (he : els.take d.length = encs d) : tSort [.slice b 0 d.length cap ex 3, .fn n_ephem_All_2 [] []] m = some (.tup [], m.set b (.cells true (encs (srtL d) ++ els.drop d.length))) := by
  have hl : d.length ≤ els.length := by
    have := congrArg List.length he
    simp only [List.length_take, List.length_map] at this
    omega
  have ha : (els.take d.length).all isEl = true := by
    rw [he, List.all_eq_true]
    intro x hx
    obtain ⟨s, _, rfl⟩ := List.mem_map.1 hx
    rfl
  have hm : (els.take d.length).map dec = d := by
    rw [he, encs, List.map_map]
    conv => rhs; rw [← List.map_id d]
    exact List.map_congr_left fun s _ => dec_enc s
  simp only [tSort, hb, hm]
  exact if_pos ⟨trivial, hl, hd, ha⟩
theorem Xfr : ToldFr X := by
  intro f t h call hc a m v m' id blk hd e
  unfold X at h
  split at h
  · cases h
    dsimp only at e ⊢
    cases a with
    | nil => cases e; exact ⟨hd, rfl⟩
    | cons x y => cases e
  split at h
  · cases h
    dsimp only at e ⊢
    rcases tSort_some e with ⟨rfl, rfl, rfl⟩ | ⟨b, cap, ex, g, els, d, rfl, hb, rfl, h3, h4, rfl, rfl⟩
    · exact ⟨hd, rfl⟩
    have hne : b ≠ id := by
      rintro rfl
      rw [hd] at hb
      cases hb
    refine ⟨by rw [List.getElem?_set_ne hne]; exact hd, ?_⟩
    rw [tSort_eq (by rw [List.getElem?_set_ne (Ne.symm hne)]; exact hb) h3 h4, List.set_comm _ _ hne]
  · exact Xfr0 f t h call hc a m v m' id blk hd e
def isT : Option (V × Mem) → Bool
  | some (.bool true, _) => true
  | _ => false
set_option maxHeartbeats 0 in
theorem lives_run : isT (callN (fun f => tab.lookup f) X0 70 n_law10_lives [] []) = true := by kernel_rfl
def isU : Option (V × Mem) → Bool
  | some (.tup [], _) => true
  | _ => false
theorem sort_nil_run : isU (callN (fun f => tab.lookup f) X0 20 n_slices_SortFunc_EphSlot [.nils, .fn n_ephem_All_2 [] []] []) = true := by kernel_rfl
theorem lives_spec {m : Mem} : C S n_law10_lives [] m (fun r m' => r = .bool true ∧ m = m') := ⟨1, _, _, rfl, rfl, rfl⟩
end Go.AM.G
