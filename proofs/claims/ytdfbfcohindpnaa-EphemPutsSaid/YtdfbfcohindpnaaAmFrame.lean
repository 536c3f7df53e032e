/- A dead block may be whatever it likes: nothing that comes to an end looks at it. -/
import Derived.Test.YtdfbfcohindpnaaAmCall
set_option linter.unusedVariables false
set_option linter.unusedSimpArgs false
namespace Go.AM
open Go
section
variable {m m' : Mem} {id b : Nat} {blk : Blk} {v : V}

theorem get_fr (hid : m[id]? = some .dead) {own : Bool} {els : List (List V)} (hb : m[b]? = some (.cells own els)) : b ≠ id ∧ (m.set id blk)[b]? = some (.cells own els) := by
  have h : b ≠ id := fun e => by subst e; rw [hid] at hb; cases hb
  exact ⟨h, by rw [List.getElem?_set_ne (fun e => h e.symm)]; exact hb⟩
theorem set_fr (hid : m[id]? = some .dead) (h : b ≠ id) (x : Blk) : (m.set b x)[id]? = some .dead ∧ (m.set id blk).set b x = (m.set b x).set id blk :=
  ⟨by rw [List.getElem?_set_ne h]; exact hid, List.set_comm _ _ (fun e => h e.symm)⟩
theorem push_fr (hid : m[id]? = some .dead) (x : List Blk) : (m ++ x)[id]? = some .dead ∧ (m.set id blk) ++ x = (m ++ x).set id blk := by
  have hl : id < m.length := (List.getElem?_eq_some_iff.1 hid).1
  exact ⟨by rw [List.getElem?_append_left hl]; exact hid, (List.set_append_left _ _ hl).symm⟩
theorem loadV_fr (hid : m[id]? = some .dead) {k : Option Nat} {a : V} (h : loadV m k a = some v) : loadV (m.set id blk) k a = some v := by
  unfold loadV at h ⊢
  split at h
  · split at h
    · rename_i hb
      simp only [(get_fr (blk := blk) hid hb).2]
      exact h
    · cases h
  · cases h
theorem elems_fr (hid : m[id]? = some .dead) {x : V} {ys : List (List V)} (h : elems m x = some ys) : elems (m.set id blk) x = some ys := by
  unfold elems at h ⊢
  split at h
  · exact h
  · split at h
    · rename_i hb
      simp only [(get_fr (blk := blk) hid hb).2]
      exact h
    · cases h
  · cases h
theorem storeV_fr (hid : m[id]? = some .dead) {n : Nat} {a x : V} (h : storeV m n a x = some m') : m'[id]? = some .dead ∧ storeV (m.set id blk) n a x = some (m'.set id blk) := by
  unfold storeV at h ⊢
  split at h
  · split at h
    · rename_i hb
      obtain ⟨h1, h2⟩ := get_fr (blk := blk) hid hb
      simp only [h2]
      split at h
      · split at h
        · rename_i hc
          cases h
          obtain ⟨h3, h4⟩ := set_fr (blk := blk) hid h1 (.cells true _)
          refine ⟨h3, ?_⟩
          rw [if_pos hc, h4]
        · cases h
      · cases h
    · cases h
  · cases h
theorem newBlk_fr (hid : m[id]? = some .dead) {tgt : Option Nat} (ht : tgt ≠ some id) {x : Blk} (h : newBlk m tgt x = some (b, m')) : m'[id]? = some .dead ∧ newBlk (m.set id blk) tgt x = some (b, m'.set id blk) := by
  cases tgt with
  | none =>
    simp only [newBlk, Option.some.injEq, Prod.mk.injEq] at h ⊢
    obtain ⟨rfl, rfl⟩ := h
    obtain ⟨h1, h2⟩ := push_fr (blk := blk) hid [x]
    exact ⟨h1, by simp, h2⟩
  | some i =>
    have hne : i ≠ id := fun e => ht (by rw [e])
    simp only [newBlk] at h ⊢
    split at h
    · rename_i hd
      simp only [Option.some.injEq, Prod.mk.injEq] at h
      obtain ⟨rfl, rfl⟩ := h
      obtain ⟨h1, h2⟩ := set_fr (blk := blk) hid hne x
      refine ⟨h1, ?_⟩
      rw [List.getElem?_set_ne (fun e => hne e.symm), hd]
      simp [h2]
    · cases h
theorem appendV_fr (hid : m[id]? = some .dead) {z : List V} {by_ : Nat} {x y : V} (h : appendV m z by_ x y = some (v, m')) : m'[id]? = some .dead ∧ appendV (m.set id blk) z by_ x y = some (v, m'.set id blk) := by
  have hl : (m.set id blk).length = m.length := List.length_set
  unfold appendV at h ⊢
  split at h
  · cases h
  rename_i ys hys
  simp only [elems_fr (blk := blk) hid hys]
  split at h
  · cases h
  rename_i hz
  rw [if_neg hz]
  split at h
  · split at h
    · rename_i he
      cases h
      exact ⟨hid, by simp only [if_pos he]⟩
    · rename_i he
      simp only [if_neg he]
      split at h
      · rename_i hr
        cases h
        obtain ⟨h1, h2⟩ := push_fr (blk := blk) hid [.cells true ys]
        exact ⟨h1, by simp only [if_pos hr, hl, h2]⟩
      · cases h
  · split at h
    · cases h
    rename_i hzz
    simp only [if_neg hzz]
    split at h
    · rename_i he
      cases h
      exact ⟨hid, by simp only [if_pos he]⟩
    rename_i he
    simp only [if_neg he]
    split at h
    · rename_i own els hb
      obtain ⟨h1, h2⟩ := get_fr (blk := blk) hid hb
      simp only [h2]
      split at h
      · rename_i hin
        simp only [if_pos hin]
        split at h
        · rename_i hr
          simp only [if_pos hr]
          split at h
          · rename_i ho
            cases h
            obtain ⟨h3, h4⟩ := set_fr (blk := blk) hid h1 (.cells true _)
            exact ⟨h3, by simp only [if_pos ho, h4]⟩
          · cases h
        · rename_i hr
          simp only [if_neg hr]
          split at h
          · rename_i hro
            simp only [if_pos hro]
            split at h
            · rename_i hx
              cases h
              obtain ⟨h3, h4⟩ := push_fr (blk := blk) hid [.cells true _]
              exact ⟨h3, by simp only [if_pos hx, hl, h4]⟩
            · rename_i hx
              simp only [if_neg hx]
              split at h
              · rename_i ho
                cases h
                obtain ⟨h3, h4⟩ := set_fr (blk := blk) hid h1 .dead
                obtain ⟨h5, h6⟩ := push_fr (blk := blk) h3 [.cells true _]
                exact ⟨h5, by simp only [if_pos ho, hl, h4, h6]⟩
              · cases h
          · cases h
      · cases h
    · cases h
  · cases h
theorem copyV_fr (hid : m[id]? = some .dead) {z : Nat} {x y : V} (h : copyV m z x y = some (v, m')) : m'[id]? = some .dead ∧ copyV (m.set id blk) z x y = some (v, m'.set id blk) := by
  unfold copyV at h ⊢
  split at h
  · rename_i xs ys hxs hys
    simp only [elems_fr (blk := blk) hid hxs, elems_fr (blk := blk) hid hys]
    simp only at h
    split at h
    · split at h
      · cases h
      rename_i hz
      rw [if_neg hz]
      split at h
      · rename_i hb
        obtain ⟨h1, h2⟩ := get_fr (blk := blk) hid hb
        simp only [h2]
        cases h
        obtain ⟨h3, h4⟩ := set_fr (blk := blk) hid h1 (.cells true _)
        exact ⟨h3, by rw [h4]⟩
      · cases h
    · cases h
      exact ⟨hid, rfl⟩
  · cases h
theorem clearV_fr (hid : m[id]? = some .dead) {z : List V} {x : V} (h : clearV m z x = some (v, m')) : m'[id]? = some .dead ∧ clearV (m.set id blk) z x = some (v, m'.set id blk) := by
  unfold clearV at h ⊢
  split at h
  · cases h
    exact ⟨hid, rfl⟩
  · split at h
    · cases h
    rename_i hz
    rw [if_neg hz]
    split at h
    · rename_i hb
      obtain ⟨h1, h2⟩ := get_fr (blk := blk) hid hb
      simp only [h2]
      split at h
      · rename_i hin
        rw [if_pos hin]
        cases h
        obtain ⟨h3, h4⟩ := set_fr (blk := blk) hid h1 (.cells true _)
        exact ⟨h3, by rw [h4]⟩
      · cases h
    · cases h
  · cases h
theorem prim_fr (hid : m[id]? = some .dead) {o : AOp} {tgt : Option Nat} (ht : tgt ≠ some id) {fr : Frame} (h : prim o tgt fr m = some (v, m')) : m'[id]? = some .dead ∧ prim o tgt fr (m.set id blk) = some (v, m'.set id blk) := by
  have quiet : ∀ {r : Option V}, (r.map fun v => (v, m)) = some (v, m') → m'[id]? = some .dead ∧ (r.map fun v => (v, m.set id blk)) = some (v, m'.set id blk) := by
    intro r hr
    simp only [Option.map_eq_some_iff] at hr ⊢
    obtain ⟨u, hu, e⟩ := hr
    cases e
    exact ⟨hid, _, hu, rfl⟩
  have new : ∀ {x : Blk} {f : Nat → V}, ((newBlk m tgt x).map fun y => (f y.1, y.2)) = some (v, m') → m'[id]? = some .dead ∧ ((newBlk (m.set id blk) tgt x).map fun y => (f y.1, y.2)) = some (v, m'.set id blk) := by
    intro x f hr
    simp only [Option.map_eq_some_iff] at hr ⊢
    obtain ⟨⟨b, m1⟩, hb, e⟩ := hr
    cases e
    obtain ⟨h1, h2⟩ := newBlk_fr (blk := blk) hid ht hb
    exact ⟨h1, _, h2, rfl⟩
  cases o <;> simp only [prim] at h ⊢
  case mv => cases h; exact ⟨hid, rfl⟩
  case nilck => split at h <;> cases h; exact ⟨hid, by simp only [*]⟩
  case pick => split at h <;> cases h; exact ⟨hid, by simp only [*]⟩
  case alloc => exact new (f := fun b => .ptr b 0 0) h
  case box =>
    split at h
    · rename_i hc; rw [if_pos hc]; exact new (f := fun b => .ptr b 0 0) h
    · cases h
  case build => exact quiet h
  case bslice =>
    simp only [Option.bind_eq_some_iff] at h ⊢
    obtain ⟨els, he, h⟩ := h
    obtain ⟨h1, h2⟩ := new (f := fun b => .slice b 0 _ _ true _) h
    exact ⟨h1, els, he, h2⟩
  case load =>
    simp only [Option.map_eq_some_iff] at h ⊢
    obtain ⟨u, hu, e⟩ := h
    cases e
    exact ⟨hid, _, loadV_fr hid hu, rfl⟩
  case store =>
    simp only [Option.map_eq_some_iff] at h ⊢
    obtain ⟨m1, hm, e⟩ := h
    cases e
    obtain ⟨h1, h2⟩ := storeV_fr (blk := blk) hid hm
    exact ⟨h1, _, h2, rfl⟩
  case bin => exact quiet h
  case eq => exact quiet h
  case ne => exact quiet h
  case un => exact quiet h
  case conv => split at h <;> cases h; exact ⟨hid, by simp only [*]⟩
  case mkfn => cases h; exact ⟨hid, rfl⟩
  case mkslice =>
    split at h
    · split at h
      · rename_i hx hy hc
        simp only [hx, hy, if_pos hc]
        exact new (f := fun b => .slice b 0 _ _ true _) h
      · cases h
    · cases h
  case slice =>
    split at h
    · rename_i hc; rw [if_pos hc]; exact quiet h
    · cases h
  case fieldAddr => split at h <;> cases h; exact ⟨hid, by simp only [*]⟩
  case field =>
    split at h
    · exact quiet h
    · cases h
  case indexAddr =>
    split at h
    · split at h
      · rename_i hx hy hc
        cases h
        exact ⟨hid, by simp only [hx, hy, if_pos hc]⟩
      · cases h
    · cases h
  case indexArr =>
    split at h
    · split at h
      · rename_i hx hy hc
        cases h
        exact ⟨hid, by simp only [hx, hy, if_pos hc]⟩
      · cases h
    · cases h
  case extract =>
    split at h
    · exact quiet h
    · cases h
  case len => split at h <;> cases h <;> exact ⟨hid, by simp only [*]⟩
  case append => exact appendV_fr hid h
  case copy => exact copyV_fr hid h
  case clear => exact clearV_fr hid h
  case min => split at h <;> cases h; exact ⟨hid, by simp only [*]⟩
  case max => split at h <;> cases h; exact ⟨hid, by simp only [*]⟩
  case call => cases h
end

def FrameC (call : CallF) : Prop := ∀ f args m v m' id blk, m[id]? = some .dead → call f args m = some (v, m') → m'[id]? = some .dead ∧ call f args (m.set id blk) = some (v, m'.set id blk)
section
variable {call : CallF} {m m' : Mem} {id : Nat} {blk : Blk} {v : V} {fr fr' : Frame}
theorem step_fr (hc : FrameC call) (hid : m[id]? = some .dead) {o : AOp} {tgt : Option Nat} (ht : tgt ≠ some id) (h : step call o tgt fr m = some (v, m')) : m'[id]? = some .dead ∧ step call o tgt fr (m.set id blk) = some (v, m'.set id blk) := by
  cases o
  case call f args =>
    simp only [step] at h ⊢
    split at h
    · exact hc _ _ _ _ _ id blk hid h
    · cases h
  all_goals
    simp only [step] at h ⊢
    exact prim_fr hid ht h
theorem chk_fr (hid : m[id]? = some .dead) {l : List (Option (Nat × Bool) × Nat × Option Nat × Arg)} (h : chkOk l fr m = true) : chkOk l fr (m.set id blk) = true := by
  simp only [chkOk, List.all_eq_true] at h ⊢
  rintro ⟨g, d, k, a⟩ hx
  have := h _ hx
  simp only [Bool.or_eq_true] at this ⊢
  rcases this with this | this
  · exact .inl this
  · right
    split at this
    · rename_i u hu
      simp only [loadV_fr (blk := blk) hid hu]
      exact this
    · cases this
theorem run1_fr (hc : FrameC call) (hid : m[id]? = some .dead) {base : Nat} {o : AOper} (ht : ∀ j, o.res = some j → base + j ≠ id) (h : run1 call base o fr m = some (fr', m')) : m'[id]? = some .dead ∧ run1 call base o fr (m.set id blk) = some (fr', m'.set id blk) := by
  unfold run1 at h ⊢
  split at h
  · rename_i hw
    rw [if_pos hw]
    split at h
    · rename_i u m1 hs
      split at h
      · rename_i hk
        cases h
        obtain ⟨h1, h2⟩ := step_fr (blk := blk) hc hid (by
          intro e
          cases hr : o.res with
          | none => rw [hr] at e; cases e
          | some j => rw [hr] at e; simp at e; exact ht j hr e) hs
        refine ⟨h1, ?_⟩
        simp only [h2, chk_fr (blk := blk) h1 hk, if_true]
      · cases h
    · cases h
  · rename_i hw
    rw [if_neg hw]
    cases h
    exact ⟨hid, rfl⟩
theorem runOps_fr (hc : FrameC call) {base : Nat} : ∀ {l : List AOper} {fr : Frame} {m : Mem}, m[id]? = some .dead → (∀ o ∈ l, ∀ j, o.res = some j → base + j ≠ id) → runOps call base l fr m = some (fr', m') →
    m'[id]? = some .dead ∧ runOps call base l fr (m.set id blk) = some (fr', m'.set id blk)
  | [], fr, m, hid, _, h => by
    simp only [runOps, Option.some.injEq, Prod.mk.injEq] at h ⊢
    obtain ⟨rfl, rfl⟩ := h
    exact ⟨hid, rfl, rfl⟩
  | o :: l, fr, m, hid, ht, h => by
    simp only [runOps] at h ⊢
    split at h
    · rename_i fr1 m1 h1
      obtain ⟨g1, g2⟩ := run1_fr (blk := blk) hc hid (ht o (by simp)) h1
      simp only [g2]
      exact runOps_fr hc g1 (fun o ho => ht o (by simp [ho])) h
    · cases h
end
end Go.AM
