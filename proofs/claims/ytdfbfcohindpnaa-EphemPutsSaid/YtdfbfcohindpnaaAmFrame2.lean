/- The same of calls. -/
import Derived.Test.YtdfbfcohindpnaaAmFrame
set_option linter.unusedVariables false
set_option linter.unusedSimpArgs false
namespace Go.AM
open Go
def plainC : ACode → Prop
  | .region ops => ∀ o ∈ ops, o.res = none
  | .seq a b => plainC a ∧ plainC b
  | .cond _ a b => plainC a ∧ plainC b
  | .block _ c => plainC c
  | .loop c => plainC c
  | _ => True
theorem mapM_res {P : Program} {N : Nat} {ops : Array Oper} : ∀ {l : List Oper} {al : List AOper}, l.mapM (compOper P N ops) = some al → ∀ o ∈ al, o.res = none
  | [], al, h, o, ho => by simp at h; subst h; simp at ho
  | x :: l, al, h, o, ho => by
    simp only [List.mapM_cons, Option.pure_def, Option.bind_eq_bind, Option.bind_eq_some_iff] at h
    obtain ⟨a, ha, as, has, e⟩ := h
    cases e
    rcases List.mem_cons.1 ho with rfl | ho
    · exact (compOper_some ha).2.2.2.2
    · exact mapM_res has o ho
theorem compCode_plain {P : Program} {N : Nat} : ∀ (c : Code) {ac : ACode}, compCode P N c = some ac → plainC ac
  | .skip, ac, h => by simp only [compCode, Option.some.injEq] at h; subst h; trivial
  | .ret, ac, h => by simp only [compCode, Option.some.injEq] at h; subst h; trivial
  | .exit id, ac, h => by simp only [compCode, Option.some.injEq] at h; subst h; trivial
  | .region id ops draw, ac, h => by
    simp only [compCode] at h
    split at h
    · simp only [Option.map_eq_some_iff] at h
      obtain ⟨⟨k, l⟩, _, rfl⟩ := h
      trivial
    · simp only [Option.map_eq_some_iff] at h
      obtain ⟨l, hl, rfl⟩ := h
      exact mapM_res hl
  | .seq a b, ac, h => by
    simp only [compCode, Option.bind_eq_bind, Option.bind_eq_some_iff, Option.pure_def, Option.some.injEq] at h
    obtain ⟨a', ha, b', hb, rfl⟩ := h
    exact ⟨compCode_plain a ha, compCode_plain b hb⟩
  | .cond c a b, ac, h => by
    simp only [compCode, Option.bind_eq_bind, Option.bind_eq_some_iff, Option.pure_def, Option.some.injEq] at h
    obtain ⟨c', _, a', ha, b', hb, rfl⟩ := h
    exact ⟨compCode_plain a ha, compCode_plain b hb⟩
  | .block id c, ac, h => by
    simp only [compCode, Option.bind_eq_bind, Option.bind_eq_some_iff, Option.pure_def, Option.some.injEq] at h
    obtain ⟨c', hc, rfl⟩ := h
    have := compCode_plain c hc
    exact this
  | .loop c, ac, h => by
    simp only [compCode, Option.bind_eq_bind, Option.bind_eq_some_iff, Option.pure_def, Option.some.injEq] at h
    obtain ⟨c', hc, rfl⟩ := h
    have := compCode_plain c hc
    exact this
  | .rangeFunc _ _ _ _, ac, h => by simp [compCode] at h
  | .scope _, ac, h => by simp [compCode] at h
  | .label _, ac, h => by simp [compCode] at h
  | .goto _, ac, h => by simp [compCode] at h
  | .refuse _, ac, h => by simp [compCode] at h

section
variable {call : CallF} {id : Nat} {blk : Blk} {e : AExit} {fr' : Frame} {m' : Mem}
theorem exec_fr (hc : FrameC call) (n : Nat) : ∀ (c : ACode), plainC c → ∀ {fr : Frame} {m : Mem} {e : AExit} {fr' : Frame} {m' : Mem}, m[id]? = some .dead → exec call n c fr m = some (e, fr', m') → m'[id]? = some .dead ∧ exec call n c fr (m.set id blk) = some (e, fr', m'.set id blk)
  | .skip, _, fr, m, e, fr', m', hid, h => by simp only [exec, Option.some.injEq, Prod.mk.injEq] at h ⊢; obtain ⟨rfl, rfl, rfl⟩ := h; exact ⟨hid, rfl, rfl, rfl⟩
  | .ret, _, fr, m, e, fr', m', hid, h => by simp only [exec, Option.some.injEq, Prod.mk.injEq] at h ⊢; obtain ⟨rfl, rfl, rfl⟩ := h; exact ⟨hid, rfl, rfl, rfl⟩
  | .exit i, _, fr, m, e, fr', m', hid, h => by simp only [exec, Option.some.injEq, Prod.mk.injEq] at h ⊢; obtain ⟨rfl, rfl, rfl⟩ := h; exact ⟨hid, rfl, rfl, rfl⟩
  | .region ops, hp, fr, m, e, fr', m', hid, h => by
    simp only [exec, Option.map_eq_some_iff] at h ⊢
    obtain ⟨⟨f1, m1⟩, h1, e'⟩ := h
    cases e'
    obtain ⟨g1, g2⟩ := runOps_fr (blk := blk) hc hid (fun o ho j hj => by rw [hp o ho] at hj; cases hj) h1
    exact ⟨g1, (f1, m1.set id blk), g2, rfl⟩
  | .draw k ops, _, fr, m, e, fr', m', hid, h => by
    simp only [exec, Option.map_eq_some_iff] at h ⊢
    obtain ⟨⟨f1, m1⟩, h1, e'⟩ := h
    cases e'
    have hl : id < m.length := (List.getElem?_eq_some_iff.1 hid).1
    obtain ⟨k1, k2⟩ := push_fr (blk := blk) hid (List.replicate k Blk.dead)
    obtain ⟨g1, g2⟩ := runOps_fr (blk := blk) hc k1 (fun o _ j _ => by omega) h1
    refine ⟨g1, (f1, m1.set id blk), ?_, rfl⟩
    rw [List.length_set, k2]
    exact g2
  | .seq a b, hp, fr, m, e, fr', m', hid, h => by
    simp only [exec] at h ⊢
    split at h
    · rename_i f1 m1 h1
      obtain ⟨g1, g2⟩ := exec_fr hc n a hp.1 hid h1
      simp only [g2]
      exact exec_fr hc n b hp.2 g1 h
    · rename_i hne
      obtain ⟨g1, g2⟩ := exec_fr hc n a hp.1 hid h
      refine ⟨g1, ?_⟩
      rw [g2]
      split
      · rename_i f1 m1 h1
        cases h1
        exact absurd h (fun h => hne _ _ h)
      · rfl
  | .cond c a b, hp, fr, m, e, fr', m', hid, h => by
    simp only [exec] at h ⊢
    split at h
    · exact exec_fr hc n a hp.1 hid h
    · exact exec_fr hc n b hp.2 hid h
    · cases h
  | .block i c, hp, fr, m, e, fr', m', hid, h => by
    simp only [exec] at h ⊢
    split at h
    · rename_i i' f1 m1 h1
      obtain ⟨g1, g2⟩ := exec_fr hc n c hp hid h1
      simp only [g2]
      split at h
      · rename_i hi
        cases h
        exact ⟨g1, by rw [if_pos hi]⟩
      · rename_i hi
        cases h
        exact ⟨g1, by rw [if_neg hi]⟩
    · rename_i hne
      obtain ⟨g1, g2⟩ := exec_fr hc n c hp hid h
      refine ⟨g1, ?_⟩
      rw [g2]
      split
      · rename_i i' f1 m1 h1
        cases h1
        exact absurd h (fun h => hne _ _ _ h)
      · rfl
  | .loop c, hp, fr, m, e, fr', m', hid, h => by
    simp only [exec] at h ⊢
    have key : ∀ (k : Nat) {fr : Frame} {m : Mem}, m[id]? = some .dead → iter (exec call n c) k fr m = some (e, fr', m') → m'[id]? = some .dead ∧ iter (exec call n c) k fr (m.set id blk) = some (e, fr', m'.set id blk) := by
      intro k
      induction k with
      | zero => intro fr m _ h; simp [iter] at h
      | succ k ih =>
        intro fr m hid h
        simp only [iter] at h ⊢
        split at h
        · rename_i f1 m1 h1
          obtain ⟨g1, g2⟩ := exec_fr hc n c hp hid h1
          simp only [g2]
          exact ih g1 h
        · rename_i hne
          obtain ⟨g1, g2⟩ := exec_fr hc n c hp hid h
          refine ⟨g1, ?_⟩
          rw [g2]
          split
          · rename_i f1 m1 h1
            cases h1
            exact absurd h (fun h => hne _ _ h)
          · rfl
    exact key n hid h
theorem resultsA_fr {l : List RV} {fr : Frame} {m : Mem} {v : V} (hid : m[id]? = some .dead) (h : resultsA l fr m = some v) : resultsA l fr (m.set id blk) = some v := by
  simp only [resultsA, Option.map_eq_some_iff] at h ⊢
  obtain ⟨vs, hvs, e⟩ := h
  refine ⟨vs, ?_, e⟩
  clear e
  induction l generalizing vs with
  | nil => simpa using hvs
  | cons r l ih =>
    simp only [List.mapM_cons, Option.pure_def, Option.bind_eq_bind, Option.bind_eq_some_iff] at hvs ⊢
    obtain ⟨u, hu, us, hus, e⟩ := hvs
    refine ⟨u, ?_, us, ih us hus, e⟩
    cases r with
    | t i => exact hu
    | cell a k => exact loadV_fr hid hu
end
def ToldFr (X : Told) : Prop := ∀ f t, X f = some t → ∀ call, FrameC call → ∀ args m v m' id blk, m[id]? = some .dead → t call args m = some (v, m') → m'[id]? = some .dead ∧ t call args (m.set id blk) = some (v, m'.set id blk)
theorem callN_fr {P : Program} {F : Nat → Option AFunc} {X : Told} (hF : TableOk P F) (hX : ToldFr X) : ∀ n, FrameC (callN F X n)
  | 0 => fun f args m v m' id blk hid h => by simp [callN] at h
  | n + 1 => fun f args m v m' id blk hid h => by
    have ih := callN_fr hF hX n
    simp only [callN] at h ⊢
    split at h
    · rename_i t ht
      exact hX f t ht _ ih args m v m' id blk hid h
    split at h
    · cases h
    rename_i fn hfn
    have hpl : plainC fn.body := by
      obtain ⟨g, hg, hcomp⟩ := hF f fn hfn
      simp only [compFunc, Option.bind_eq_bind, Option.bind_eq_some_iff, Option.pure_def] at hcomp
      obtain ⟨c, hc, hcomp⟩ := hcomp
      split at hcomp
      · cases hcomp
      split at hcomp
      · cases hcomp
      simp only [Option.bind_eq_some_iff, Option.some.injEq] at hcomp
      obtain ⟨ac, hac, rl, hrl, rfl⟩ := hcomp
      exact compCode_plain c hac
    split at h
    case isFalse => cases h
    rename_i hlen
    rw [if_pos hlen]
    split at h
    · rename_i f1 m1 h1
      simp only [Option.map_eq_some_iff] at h
      obtain ⟨u, hu, e⟩ := h
      cases e
      obtain ⟨g1, g2⟩ := exec_fr (blk := blk) ih n fn.body hpl hid h1
      simp only [g2]
      exact ⟨g1, by rw [resultsA_fr g1 hu]; rfl⟩
    · rename_i f1 m1 h1
      simp only [Option.map_eq_some_iff] at h
      obtain ⟨u, hu, e⟩ := h
      cases e
      obtain ⟨g1, g2⟩ := exec_fr (blk := blk) ih n fn.body hpl hid h1
      simp only [g2]
      exact ⟨g1, by rw [resultsA_fr g1 hu]; rfl⟩
    · cases h
end Go.AM
