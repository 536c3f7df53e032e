/- The plain law of holders: what all agree on that lead to a node, again and again till nothing changes. -/
import Derived.Test.YtnpefpiggklimaaGraphOT
set_option linter.unusedVariables false
set_option linter.unusedSimpArgs false
namespace Go.AM.G
/-- an ancestor, or it: k is the first of all. -/
inductive An (k : Nat) (up : Nat → Nat) : Nat → Nat → Prop
  | refl (x : Nat) : An k up x x
  | step {x y : Nat} : x < k → An k up (up x) y → An k up x y
section
variable {k : Nat} {up : Nat → Nat}
theorem An.trans {a b c : Nat} (h : An k up a b) (g : An k up b c) : An k up a c := by
  induction h with
  | refl => exact g
  | step h1 _ ih => exact .step h1 (ih g)
theorem An.cases' {a b : Nat} (h : An k up a b) : a = b ∨ (a < k ∧ An k up (up a) b) := by
  cases h with
  | refl => exact .inl rfl
  | step h1 h2 => exact .inr ⟨h1, h2⟩
theorem An.first {b : Nat} (h : An k up k b) : b = k := by
  rcases h.cases' with h | ⟨h, _⟩
  · exact h.symm
  · omega
end
/-- what the order and the ups tell. rk: the place in the order and one, the first of all has 0; set: is it set? -/
structure HC where
  k : Nat
  rk : Nat → Nat
  L : List Nat
  from' : Nat → List Nat
/-- reached from the first of all, never through d. -/
inductive Av (h : HC) (d : Nat) : Nat → Prop
  | start : h.k ≠ d → Av h d h.k
  | step {q p : Nat} : Av h d q → q ∈ h.from' p → p ≠ d → Av h d p
/-- a way on which all but the first one come behind m. -/
inductive PtD (h : HC) (m : Nat) : Nat → Nat → Prop
  | refl (x : Nat) : PtD h m x x
  | step {x q p : Nat} : PtD h m x q → q ∈ h.from' p → m < h.rk p → PtD h m x p
/-- what all agree on. -/
def Meet (h : HC) (up : Nat → Nat) (set : Nat → Bool) (p b : Nat) : Prop := (∀ q, q ∈ h.from' p → set q = true → An h.k up q b) ∧ ∀ y, (∀ q, q ∈ h.from' p → set q = true → An h.k up q y) → An h.k up b y
/-- the state while nodes of lesser rank than i were gone through in this round. -/
structure HI (h : HC) (up : Nat → Nat) (set : Nat → Bool) (i : Nat) : Prop where
  setk : set h.k = true
  mem : ∀ x, set x = true → x ∈ h.L ∨ x = h.k
  up_set : ∀ x, x ∈ h.L → set x = true → set (up x) = true ∧ h.rk (up x) < h.rk x
  early : ∀ x, x ∈ h.L → h.rk x < i → set x = true
  all : (∀ x, x ∈ h.L → set x = true) ∨ ∀ x, x ∈ h.L → set x = true → h.rk x < i
  mo : ∀ p, p ∈ h.L → set p = true → ∀ y, (∀ q, q ∈ h.from' p → set q = true → An h.k up q y) → An h.k up (up p) y
  tr : ∀ p, p ∈ h.L → set p = true → ∀ t, t ∈ h.from' p → set t = true → h.rk t < h.rk p → (h.rk p < i ∨ i ≤ h.rk (up p) ∨ up p = h.k) → An h.k up t (up p)
  pa : ∀ p, p ∈ h.L → set p = true → PtD h (h.rk (up p)) (up p) p
  dom : ∀ p, p ∈ h.L → set p = true → ∀ d, ¬ Av h d p → An h.k up p d
/-- the right surroundings. -/
structure HR (h : HC) : Prop where
  lt : ∀ x, x ∈ h.L → x < h.k
  rkk : h.rk h.k = 0
  rkp : ∀ x, x ∈ h.L → 0 < h.rk x
  inj : ∀ x y, x ∈ h.L → y ∈ h.L → h.rk x = h.rk y → x = y
  frm : ∀ p q, p ∈ h.L → q ∈ h.from' p → q ∈ h.L ∨ q = h.k
  par : ∀ p, p ∈ h.L → ∃ t, t ∈ h.from' p ∧ h.rk t < h.rk p
section
variable {h : HC} {up : Nat → Nat} {set : Nat → Bool} {i : Nat}
theorem HI.rk_le (H : HI h up set i) (R : HR h) {a b : Nat} (g : An h.k up a b) (ha : set a = true) : set b = true ∧ h.rk b ≤ h.rk a ∧ (h.rk b = h.rk a → b = a) := by
  induction g with
  | refl => exact ⟨ha, Nat.le_refl _, fun _ => rfl⟩
  | @step x y h1 _ ih =>
    rcases H.mem x ha with hx | hx
    · obtain ⟨h2, h3⟩ := H.up_set x hx ha
      obtain ⟨h4, h5, h6⟩ := ih h2
      exact ⟨h4, by omega, fun e => by omega⟩
    · omega
theorem HI.top (H : HI h up set i) (R : HR h) {a : Nat} (ha : set a = true) : An h.k up a h.k := by
  generalize hr : h.rk a = r
  induction r using Nat.strongRecOn generalizing a with
  | ind r ih =>
    rcases H.mem a ha with hx | hx
    · obtain ⟨h2, h3⟩ := H.up_set a hx ha
      exact .step (R.lt a hx) (ih (h.rk (up a)) (by omega) h2 rfl)
    · rw [hx]; exact .refl _
/-- a chain when one up is turned. -/
theorem An.upd_other {p b : Nat} {a y : Nat} (g : An h.k up a y) (hp : ¬ An h.k up a p) : An h.k (upd up p b) a y := by
  induction g with
  | refl => exact .refl _
  | @step x y h1 _ ih =>
    have hx : x ≠ p := fun e => hp (e ▸ .refl _)
    refine .step h1 ?_
    rw [upd_ne hx]
    exact ih fun g => hp (.step h1 g)
theorem An.upd_to {p b : Nat} {a : Nat} (g : An h.k up a p) : An h.k (upd up p b) a p := by
  induction g with
  | refl => exact .refl _
  | @step x y h1 _ ih =>
    by_cases hx : x = y
    · rw [hx]; exact .refl _
    · refine .step h1 ?_
      rw [upd_ne hx]
      exact ih
/-- what is in a turned chain was in the old one, if what is turned goes up. -/
theorem An.upd_back {p b : Nat} (hb : An h.k up (up p) b) {a y : Nat} (g : An h.k (upd up p b) a y) : An h.k up a y := by
  induction g with
  | refl => exact .refl _
  | @step x y h1 _ ih =>
    by_cases hx : x = p
    · rw [hx, upd_self] at ih
      rw [hx] at h1 ⊢
      exact .step h1 (hb.trans ih)
    · rw [upd_ne hx] at ih
      exact .step h1 ih
theorem An.back_other {p b : Nat} {a y : Nat} (g : An h.k (upd up p b) a y) (hp : ¬ An h.k up a p) : An h.k up a y := by
  induction g with
  | refl => exact .refl _
  | @step x y h1 _ ih =>
    have hx : x ≠ p := fun e => hp (e ▸ .refl _)
    rw [upd_ne hx] at ih
    exact .step h1 (ih fun g => hp (.step h1 g))
theorem An.linear {a y z : Nat} (g : An h.k up a y) (g' : An h.k up a z) : An h.k up y z ∨ An h.k up z y := by
  induction g with
  | refl => exact .inl g'
  | @step x y h1 h2 ih =>
    rcases g'.cases' with rfl | ⟨_, h3⟩
    · exact .inr (.step h1 h2)
    · exact ih h3
theorem HI.anti (H : HI h up set i) (R : HR h) {a b : Nat} (g : An h.k up a b) (g' : An h.k up b a) (ha : set a = true) : a = b := by
  obtain ⟨h1, h2, h3⟩ := H.rk_le R g ha
  obtain ⟨_, h5, _⟩ := H.rk_le R g' h1
  exact (h3 (by omega)).symm
/-- a chain's part ahead of what is turned stays. -/
theorem HI.prefix' (H : HI h up set i) (R : HR h) {p b a y : Nat} (g : An h.k up a y) (g' : An h.k up y p) (ha : set a = true) : An h.k (upd up p b) a y := by
  induction g with
  | refl => exact .refl _
  | @step x y h1 h2 ih =>
    by_cases hx : x = p
    · subst hx
      rw [H.anti R (.step h1 h2) g' ha]
      exact .refl _
    · refine .step h1 ?_
      rw [upd_ne hx]
      rcases H.mem x ha with hm | hm
      · exact ih g' (H.up_set x hm ha).1
      · omega
theorem PtD.weaken {m m' x y : Nat} (g : PtD h m x y) (hm : m' ≤ m) : PtD h m' x y := by
  induction g with
  | refl => exact .refl _
  | step _ h2 h3 ih => exact .step ih h2 (by omega)
theorem PtD.trans {m x y z : Nat} (g : PtD h m x y) (g' : PtD h m y z) : PtD h m x z := by
  induction g' with
  | refl => exact g
  | step _ h2 h3 ih => exact .step ih h2 h3
theorem HI.way (H : HI h up set i) (R : HR h) {a y : Nat} (g : An h.k up a y) (ha : set a = true) : PtD h (h.rk y) y a := by
  induction g with
  | refl => exact .refl _
  | @step x y h1 h2 ih =>
    rcases H.mem x ha with hm | hm
    · have h3 := (H.up_set x hm ha).1
      exact (ih h3).trans ((H.pa x hm ha).weaken (H.rk_le R h2 h3).2.1)
    · omega
theorem Av.along {d m x y : Nat} (g : PtD h m x y) (hx : Av h d x) (hd : h.rk d ≤ m) : Av h d y := by
  induction g with
  | refl => exact hx
  | @step q p _ h2 h3 ih => exact .step ih h2 (fun e => by rw [e] at h3; omega)
/-- one node's up is turned to what all agree on. -/
theorem HI.next (H : HI h up set i) (R : HR h) {p b : Nat} (hp : p ∈ h.L) (hi : h.rk p = i) (hm : Meet h up set p b) : HI h (upd up p b) (upd set p true) (i + 1) ∧ set b = true ∧ h.rk b < h.rk p ∧ (set p = true → An h.k up (up p) b) := by
  have hpk := R.lt p hp
  have hsettree : ∀ x, x ∈ h.L → (set x = true ∨ x = p) → ∀ t, t ∈ h.from' x → h.rk t < h.rk x → set t = true := by
    intro x hx hsx t ht hlt
    rcases R.frm x t hx ht with htL | rfl
    · rcases H.all with ha | ha
      · exact ha t htL
      · refine H.early t htL ?_
        rcases hsx with hsx | rfl
        · have := ha x hx hsx; omega
        · omega
    · exact H.setk
  obtain ⟨t, ht, htlt⟩ := R.par p hp
  have hts := hsettree p hp (.inr rfl) t ht htlt
  have htb := hm.1 t ht hts
  obtain ⟨hbs, hbt, _⟩ := H.rk_le R htb hts
  have hbp : h.rk b < h.rk p := by omega
  have hnb : ∀ a, set a = true → h.rk a < h.rk p → ¬ An h.k up a p := fun a ha hl g => by have := (H.rk_le R g ha).2.1; omega
  have hup : set p = true → An h.k up (up p) b := fun hs => H.mo p hp hs b hm.1
  -- what is in a turned chain was in the old one
  have hback : ∀ a y, set a = true → An h.k (upd up p b) a y → An h.k up a y := by
    intro a y ha g
    by_cases hs : set p = true
    · exact An.upd_back (hup hs) g
    · exact An.back_other g fun g' => hs (H.rk_le R g' ha).1
  have hbk : ∀ y, An h.k up b y → An h.k (upd up p b) b y := fun y g => An.upd_other g (hnb b hbs hbp)
  have hpb : ∀ y, An h.k up b y → An h.k (upd up p b) p y := fun y g => .step hpk (by rw [upd_self]; exact hbk y g)
  have hset : ∀ x, upd set p true x = true → x ≠ p → set x = true := fun x hx hne => by rwa [upd_ne hne] at hx
  have hset' : ∀ x, set x = true → upd set p true x = true := fun x hx => by unfold upd; split <;> simp [hx]
  have hdomp : ∀ d, ¬ Av h d p → An h.k (upd up p b) p d := by
    intro d hd
    by_cases e : p = d
    · subst e; exact .refl _
    · refine hpb d (hm.2 d fun q hq hqs => ?_)
      have hq' : ¬ Av h d q := fun hv => hd (.step hv hq e)
      rcases R.frm p q hp hq with hqL | rfl
      · exact H.dom q hqL hqs d hq'
      · by_cases e2 : h.k = d
        · subst e2; exact .refl _
        · exact absurd (.start e2) hq'
  refine ⟨⟨hset' _ H.setk, fun x hx => ?_, fun x hx hs => ?_, fun x hx hl => ?_, ?_, ?_, ?_, ?_, ?_⟩, hbs, hbp, hup⟩
  · by_cases e : x = p
    · subst e; exact .inl hp
    · exact H.mem x (hset x hx e)
  · by_cases e : x = p
    · subst e; rw [upd_self]; exact ⟨hset' _ hbs, hbp⟩
    · rw [upd_ne e]
      obtain ⟨h1, h2⟩ := H.up_set x hx (hset x hs e)
      exact ⟨hset' _ h1, h2⟩
  · by_cases e : x = p
    · subst e; exact upd_self
    · refine hset' _ (H.early x hx ?_)
      have : h.rk x ≠ i := fun e2 => e (R.inj x p hx hp (by omega))
      omega
  · rcases H.all with ha | ha
    · exact .inl fun x hx => hset' _ (ha x hx)
    · refine .inr fun x hx hs => ?_
      by_cases e : x = p
      · subst e; omega
      · have := ha x hx (hset x hs e); omega
  · intro x hx hs y hy
    have hy' : ∀ q, q ∈ h.from' x → set q = true → An h.k up q y := fun q hq hqs => hback q y hqs (hy q hq (hset' q hqs))
    by_cases e : x = p
    · subst e
      rw [upd_self]
      exact hbk y (hm.2 y hy')
    · rw [upd_ne e]
      have hsx := hset x hs e
      have h1 := H.mo x hx hsx y hy'
      by_cases hc : An h.k up (up x) p
      · obtain ⟨h2, h3⟩ := H.up_set x hx hsx
        obtain ⟨h4, h5, _⟩ := H.rk_le R hc h2
        obtain ⟨t, ht, htlt⟩ := R.par x hx
        have hts := hsettree x hx (.inl hsx) t ht htlt
        have htu := H.tr x hx hsx t ht hts htlt (.inr (.inl (by omega)))
        have g1 := hy t ht (hset' t hts)
        have g2 : An h.k (upd up p b) t p := An.upd_to (htu.trans hc)
        rcases An.linear g1 g2 with g3 | g3
        · have hys : set y = true := (H.rk_le R h1 h2).1
          exact H.prefix' R h1 (hback y p hys g3) h2
        · exact (An.upd_to hc).trans g3
      · exact An.upd_other h1 hc
  · intro x hx hs t' ht' hst hlt hcond
    by_cases e : x = p
    · subst e
      rw [upd_self]
      have hne : t' ≠ x := fun e2 => by rw [e2] at hlt; omega
      have hts' := hset t' hst hne
      exact An.upd_other (hm.1 t' ht' hts') (hnb t' hts' hlt)
    · rw [upd_ne e] at hcond ⊢
      have hsx := hset x hs e
      have hxi : h.rk x ≠ i := fun e2 => e (R.inj x p hx hp (by omega))
      have htop : An h.k (upd up p b) p h.k := hpb _ (H.top R hbs)
      by_cases hxl : h.rk x < i
      · have hne : t' ≠ p := fun e2 => by rw [e2] at hlt; omega
        have hts' := hset t' hst hne
        exact An.upd_other (H.tr x hx hsx t' ht' hts' hlt (.inl hxl)) (hnb t' hts' (by omega))
      · have hall : ∀ y, y ∈ h.L → set y = true := by
          rcases H.all with ha | ha
          · exact ha
          · have := ha x hx hsx; omega
        have hts' : set t' = true := by
          by_cases e2 : t' = p
          · rw [e2]; exact hall p hp
          · exact hset t' hst e2
        rcases hcond with hc | hc | hc
        · omega
        · have g := H.tr x hx hsx t' ht' hts' hlt (.inr (.inl (by omega)))
          by_cases hcp : An h.k up t' p
          · rcases An.linear g hcp with g2 | g2
            · exact H.prefix' R g g2 hts'
            · have := (H.rk_le R g2 (hall p hp)).2.1; omega
          · exact An.upd_other g hcp
        · rw [hc]
          by_cases hcp : An h.k up t' p
          · exact (An.upd_to hcp).trans htop
          · exact An.upd_other (H.top R hts') hcp
  · intro x hx hs
    by_cases e : x = p
    · subst e
      rw [upd_self]
      exact .step (H.way R htb hts) ht hbp
    · rw [upd_ne e]
      exact H.pa x hx (hset x hs e)
  · intro x hx hs d hd
    by_cases e : x = p
    · subst e; exact hdomp d hd
    · have hsx := hset x hs e
      have g := H.dom x hx hsx d hd
      by_cases hcp : An h.k up x p
      · rcases An.linear g hcp with g2 | g2
        · exact H.prefix' R g g2 hsx
        · by_cases e2 : p = d
          · subst e2; exact An.upd_to hcp
          · refine (An.upd_to hcp).trans (hdomp d fun hv => hd ?_)
            have hps := (H.rk_le R hcp hsx).1
            obtain ⟨_, h5, h6⟩ := H.rk_le R g2 hps
            have : h.rk d ≠ h.rk p := fun e3 => e2 (h6 e3).symm
            exact hv.along (H.way R hcp hsx) h5
      · exact An.upd_other g hcp
/-- a round ends, and one begins. -/
theorem HI.round (H : HI h up set i) (R : HR h) (hi : ∀ x, x ∈ h.L → h.rk x < i) : HI h up set 1 := by
  have hall : ∀ x, x ∈ h.L → set x = true := fun x hx => H.early x hx (hi x hx)
  exact ⟨H.setk, H.mem, H.up_set, fun x hx hl => hall x hx, .inl hall, H.mo, fun p hp hs t ht hts hlt _ => H.tr p hp hs t ht hts hlt (.inl (hi p hp)), H.pa, H.dom⟩
/-- nothing is set yet. -/
theorem HI.begin (R : HR h) (up : Nat → Nat) (hs : ∀ x, set x = true ↔ x = h.k) : HI h up set 1 := by
  have hno : ∀ x, x ∈ h.L → ¬ set x = true := fun x hx e => by have := R.lt x hx; rw [(hs x).1 e] at this; omega
  refine ⟨(hs _).2 rfl, fun x hx => .inr ((hs x).1 hx), fun x hx e => absurd e (hno x hx), fun x hx e => ?_, .inr fun x hx e => absurd e (hno x hx), fun x hx e => absurd e (hno x hx), fun x hx e => absurd e (hno x hx), fun x hx e => absurd e (hno x hx), fun x hx e => absurd e (hno x hx)⟩
  have := R.rkp x hx
  omega
/-- nothing changes any more. -/
theorem HI.fixed (H : HI h up set i) (R : HR h) (hall : ∀ x, x ∈ h.L → set x = true) (hf : ∀ p, p ∈ h.L → Meet h up set p (up p)) {x d : Nat} (hx : x ∈ h.L) : An h.k up x d ↔ ¬ Av h d x := by
  constructor
  · intro g hv
    have key : ∀ y, Av h d y → (y ∈ h.L ∨ y = h.k) → (∀ z, z ∈ h.L → ∀ q, q ∈ h.from' z → q ∈ h.L ∨ q = h.k) → ¬ An h.k up y d := by
      intro y hv
      induction hv with
      | start hd => exact fun _ _ g => hd g.first.symm
      | @step q p _ hq hpd ih =>
        intro hp hfr g
        rcases hp with hp | rfl
        · have hqL := hfr p hp q hq
          refine ih hqL hfr ?_
          have hqs : set q = true := by
            rcases hqL with h | rfl
            · exact hall q h
            · exact H.setk
          rcases g.cases' with rfl | ⟨_, g⟩
          · exact absurd rfl hpd
          · exact ((hf p hp).1 q hq hqs).trans g
        · exact hpd g.first.symm
    exact key x hv (.inl hx) (fun z hz q hq => R.frm z q hz hq) g
  · exact H.dom x hx (hall x hx) d
end
end Go.AM.G
