/- Part of the proof: contracts of functions of the given program on an abstract machine. -/
import Derived.Test.YtdfbfcohindpnaaEphemH
set_option linter.unusedVariables false
set_option linter.unusedSimpArgs false
set_option maxRecDepth 100000
namespace Go.AM.G
open Go Go.AM
/-! the plain law of the table -/
def hk (l : List Slot) (k : Int) : Nat := (homeI k l.length).toNat
def sl (l : List Slot) (h d : Nat) : Slot := l.getD ((h + d) % l.length) zeroS
def Q (l : List Slot) (k : Int) (h d : Nat) : Prop := ∀ e, e < d → (sl l h e).st ≠ 0 ∧ ¬ ((sl l h e).st = 1 ∧ (sl l h e).key = k)
theorem sl_get {l : List Slot} {h d : Nat} (hn : 0 < l.length) : l[(h + d) % l.length]? = some (sl l h d) := by
  have := Nat.mod_lt (h + d) hn
  simp [sl, List.getD_eq_getElem?_getD, List.getElem?_eq_getElem this]
theorem mod_cases {h e n : Nat} (hh : h < n) (he : e < n) : (h + e < n ∧ (h + e) % n = h + e) ∨ (n ≤ h + e ∧ (h + e) % n = h + e - n) := by
  by_cases c : h + e < n
  · exact .inl ⟨c, Nat.mod_eq_of_lt c⟩
  · exact .inr ⟨by omega, by rw [Nat.mod_eq_sub_mod (by omega), Nat.mod_eq_of_lt (by omega)]⟩
theorem mod_inj {h e d n : Nat} (hh : h < n) (he : e < n) (hd : d < n) (c : (h + e) % n = (h + d) % n) : e = d := by
  rcases mod_cases hh he with ⟨_, a⟩ | ⟨_, a⟩ <;> rcases mod_cases hh hd with ⟨_, b⟩ | ⟨_, b⟩ <;> omega
theorem findF_main {l : List Slot} {k : Int} {h : Nat} (hn : 0 < l.length) : ∀ {f a : Nat} {g : Option Nat}, a + f = l.length → Q l k h a → (∀ y, g = some y → ∃ e, e < a ∧ y = (h + e) % l.length ∧ (sl l h e).st = 2) →
    ((findF l k f ((h + a) % l.length) g).2 = true → ∃ d, d < l.length ∧ Q l k h d ∧ (findF l k f ((h + a) % l.length) g).1 = (h + d) % l.length ∧ (sl l h d).st = 1 ∧ (sl l h d).key = k) ∧
    ((findF l k f ((h + a) % l.length) g).2 = false → Q l k h l.length ∨ ∃ d, d < l.length ∧ Q l k h d ∧ (sl l h d).st = 0 ∧ ((findF l k f ((h + a) % l.length) g).1 = (h + d) % l.length ∨ ∃ e, e < d ∧ (findF l k f ((h + a) % l.length) g).1 = (h + e) % l.length ∧ (sl l h e).st = 2))
  | 0, a, g, ha, hq, hg => by
    simp only [findF]
    refine ⟨by simp, fun _ => .inl ?_⟩
    rw [← ha]
    exact hq
  | f + 1, a, g, ha, hq, hg => by
    have hs := sl_get (h := h) (d := a) hn
    simp only [findF, hs]
    by_cases h0 : (sl l h a).st = 0
    · rw [if_pos h0]
      refine ⟨by simp, fun _ => .inr ⟨a, by omega, hq, h0, ?_⟩⟩
      cases g with
      | none => exact .inl rfl
      | some y =>
        obtain ⟨e, e1, e2, e3⟩ := hg y rfl
        exact .inr ⟨e, e1, e2, e3⟩
    rw [if_neg h0]
    by_cases h1 : (sl l h a).st = 1 ∧ (sl l h a).key = k
    · rw [if_pos h1]
      exact ⟨fun _ => ⟨a, by omega, hq, rfl, h1.1, h1.2⟩, by simp⟩
    rw [if_neg h1]
    have e : ((h + a) % l.length + 1) % l.length = (h + (a + 1)) % l.length := by rw [Nat.mod_add_mod]; rfl
    rw [e]
    refine findF_main hn (by omega) ?_ ?_
    · intro x hx
      by_cases hxa : x = a
      · subst hxa; exact ⟨h0, h1⟩
      · exact hq x (by omega)
    · intro y hy
      split at hy
      · rename_i hc
        cases hy
        exact ⟨a, by omega, rfl, hc.1⟩
      · obtain ⟨e, e1, e2⟩ := hg y hy
        exact ⟨e, by omega, e2⟩
theorem hk_lt {l : List Slot} {k : Int} (hp : Pow l.length) : hk l k < l.length := by
  have := hp.le
  obtain ⟨h0, h1⟩ := home_range (key := k) hp
  unfold hk
  omega
theorem findL_eq {l : List Slot} {k : Int} (hp : Pow l.length) : findL l k = findF l k l.length ((hk l k + 0) % l.length) none := by
  have := hp.le
  have h1 := hk_lt (k := k) hp
  unfold findL
  rw [if_neg (by omega), Nat.add_zero, Nat.mod_eq_of_lt h1]
  rfl
theorem no_free {l : List Slot} {k : Int} {h : Nat} (hh : h < l.length) (h0 : 0 < cnt 0 l) : ¬ Q l k h l.length := by
  intro hq
  obtain ⟨j, s, hj, hs⟩ := exists_free h0
  obtain ⟨hjl, e⟩ := List.getElem?_eq_some_iff.1 hj
  have hx : (h + (j + l.length - h) % l.length) % l.length = j := by
    rw [Nat.add_mod_mod]
    have : h + (j + l.length - h) = j + l.length := by omega
    rw [this, Nat.add_mod_right, Nat.mod_eq_of_lt hjl]
  have h2 := hq ((j + l.length - h) % l.length) (Nat.mod_lt _ (by omega))
  have h3 := sl_get (h := h) (d := (j + l.length - h) % l.length) (l := l) (by omega)
  rw [hx, hj] at h3
  cases h3
  exact h2.1 hs
theorem find_true {l : List Slot} {k : Int} (hp : Pow l.length) (h : (findL l k).2 = true) : ∃ d, d < l.length ∧ Q l k (hk l k) d ∧ (findL l k).1 = (hk l k + d) % l.length ∧ (sl l (hk l k) d).st = 1 ∧ (sl l (hk l k) d).key = k := by
  have hle := hp.le
  rw [findL_eq hp] at h ⊢
  exact (findF_main (by omega) (by omega) (fun e he => absurd he (Nat.not_lt_zero _)) (by simp)).1 h
theorem find_false {l : List Slot} {k : Int} (hp : Pow l.length) (h0 : 0 < cnt 0 l) (h : (findL l k).2 = false) : ∃ d, d < l.length ∧ Q l k (hk l k) d ∧ (sl l (hk l k) d).st = 0 ∧ ((findL l k).1 = (hk l k + d) % l.length ∨ ∃ e, e < d ∧ (findL l k).1 = (hk l k + e) % l.length ∧ (sl l (hk l k) e).st = 2) := by
  have hle := hp.le
  rw [findL_eq hp] at h ⊢
  exact ((findF_main (by omega) (by omega) (fun e he => absurd he (Nat.not_lt_zero _)) (by simp)).2 h).resolve_left (no_free (hk_lt hp) h0)
theorem find_at {l : List Slot} {k : Int} {d : Nat} (hp : Pow l.length) (h0 : 0 < cnt 0 l) (hd : d < l.length) (hq : Q l k (hk l k) d) (h1 : (sl l (hk l k) d).st = 1) (h2 : (sl l (hk l k) d).key = k) : findL l k = ((hk l k + d) % l.length, true) := by
  cases h : (findL l k).2 with
  | true =>
    obtain ⟨d', a1, a2, a3, a4, a5⟩ := find_true hp h
    have : d' = d := by
      rcases Nat.lt_trichotomy d' d with c | c | c
      · exact absurd ⟨a4, a5⟩ (hq d' c).2
      · exact c
      · exact absurd ⟨h1, h2⟩ (a2 d c).2
    subst this
    rw [← a3, ← h]
  | false =>
    obtain ⟨d', a1, a2, a3, _⟩ := find_false hp h0 h
    rcases Nat.lt_trichotomy d' d with c | c | c
    · exact absurd a3 (hq d' c).1
    · subst c; omega
    · exact absurd ⟨h1, h2⟩ (a2 d c).2
/-- a table at work: each used slot is found. -/
structure okT (l : List Slot) : Prop where
  pow : Pow l.length
  free : 0 < cnt 0 l
  ok : ∀ i s, l[i]? = some s → okS l i s = true
theorem okFrom_iff {l r : List Slot} : ∀ {i : Nat}, okFrom l i r = true ↔ ∀ j s, r[j]? = some s → okS l (i + j) s = true := by
  induction r with
  | nil => intro i; simp [okFrom]
  | cons a r ih =>
    intro i
    simp only [okFrom, Bool.and_eq_true, ih]
    constructor
    · rintro ⟨h1, h2⟩ j s hj
      cases j with
      | zero => simp at hj; subst hj; exact h1
      | succ j => have := h2 j s (by simpa using hj); rwa [show i + 1 + j = i + (j + 1) by omega] at this
    · intro h
      refine ⟨h 0 a rfl, fun j s hj => ?_⟩
      have := h (j + 1) s (by simpa using hj)
      rwa [show i + (j + 1) = i + 1 + j by omega] at this
theorem valid_iff {l : List Slot} : validB l = true ↔ l.length = 0 ∨ okT l ∧ l.length ≤ 4 * cnt 0 l := by
  simp only [validB, Bool.or_eq_true, Bool.and_eq_true, decide_eq_true_eq, okFrom_iff, Nat.zero_add]
  constructor
  · rintro (h | ⟨h1, h2, h3⟩)
    · exact .inl h
    · have := h1.le
      exact .inr ⟨⟨h1, by omega, h3⟩, h2⟩
  · rintro (h | ⟨h1, h2⟩)
    · exact .inl h
    · exact .inr ⟨h1.pow, h2, h1.ok⟩
/-- a key has a value. -/
def Has (l : List Slot) (k v : Int) : Prop := ∃ (j : Nat) (s : Slot), l[j]? = some s ∧ s.st = 1 ∧ s.key = k ∧ s.val = v
theorem okT.find {l : List Slot} (h : okT l) {j : Nat} {s : Slot} (hj : l[j]? = some s) (h1 : s.st = 1) : findL l s.key = (j, true) ∧ s.key ≠ 0 := by
  have := h.ok j s hj
  simp only [okS, h1, if_true, Bool.and_eq_true, decide_eq_true_eq] at this
  exact ⟨this.2.2, this.2.1⟩
theorem okT.uniq {l : List Slot} (h : okT l) {j j' : Nat} {s s' : Slot} (hj : l[j]? = some s) (h1 : s.st = 1) (hj' : l[j']? = some s') (h1' : s'.st = 1) (hk : s.key = s'.key) : j = j' := by
  have a := (h.find hj h1).1
  have b := (h.find hj' h1').1
  rw [hk, b] at a
  simpa using a.symm
theorem okT.found {l : List Slot} (h : okT l) {k : Int} (hf : (findL l k).2 = true) : ∃ s, l[(findL l k).1]? = some s ∧ s.st = 1 ∧ s.key = k := (findL_spec h.pow).2 hf
theorem okT.found_iff {l : List Slot} (h : okT l) {k : Int} : (findL l k).2 = true ↔ ∃ v, Has l k v := by
  constructor
  · intro hf
    obtain ⟨s, a, b, c⟩ := h.found hf
    exact ⟨_, _, s, a, b, c, rfl⟩
  · rintro ⟨v, j, s, a, b, rfl, _⟩
    rw [(h.find a b).1]
theorem set_sl {l : List Slot} {i h d : Nat} {x : Slot} (hn : 0 < l.length) : sl (l.set i x) h d = if (h + d) % l.length = i then x else sl l h d := by
  have hm := Nat.mod_lt (h + d) hn
  unfold sl
  simp only [List.length_set, List.getD_eq_getElem?_getD, List.getElem?_set]
  split
  · rename_i e
    subst e
    simp [hm]
  · rename_i e
    rw [if_neg (fun c => e c.symm)]
/-- what a slot's change keeps: no slot gets free, none of another key goes. -/
theorem okT.set {l : List Slot} (h : okT l) {i : Nat} {x : Slot} (hi : i < l.length) (h0 : x.st ≠ 0) (hfree : 0 < cnt 0 (l.set i x))
    (hold : ∀ s, l[i]? = some s → s.st = 1 → x.st ≠ 1 ∨ s.key = x.key) (hx : okS (l.set i x) i x = true) (hxk : x.st = 1 → ∀ j s, l[j]? = some s → s.st = 1 → s.key = x.key → j = i) : okT (l.set i x) := by
  have hn : 0 < l.length := by omega
  have hlen : (l.set i x).length = l.length := List.length_set
  refine ⟨by rw [hlen]; exact h.pow, hfree, fun j s hj => ?_⟩
  by_cases hji : j = i
  · subst hji
    rw [List.getElem?_set_self hi] at hj
    cases hj
    exact hx
  rw [List.getElem?_set_ne (Ne.symm hji)] at hj
  have hok := h.ok j s hj
  by_cases h1 : s.st = 1
  · obtain ⟨hf, hk0⟩ := h.find hj h1
    obtain ⟨d, d1, d2, d3, d4, d5⟩ := find_true h.pow (k := s.key) (by rw [hf])
    rw [hf] at d3
    have hkk : hk (l.set i x) s.key = hk l s.key := by unfold hk; rw [hlen]
    have hp' : Pow (l.set i x).length := by rw [hlen]; exact h.pow
    have hfd : findL (l.set i x) s.key = ((hk (l.set i x) s.key + d) % (l.set i x).length, true) := by
      refine find_at hp' hfree (by omega) ?_ ?_ ?_
      · intro e he
        rw [hkk, set_sl hn]
        split
        · refine ⟨h0, fun c => ?_⟩
          exact hji (hxk c.1 j s hj h1 c.2.symm)
        · exact d2 e he
      · rw [hkk, set_sl hn, if_neg (by rw [← d3]; exact hji)]; exact d4
      · rw [hkk, set_sl hn, if_neg (by rw [← d3]; exact hji)]; exact d5
    rw [hkk, hlen, ← d3] at hfd
    simp only [okS, h1, hfd] at hok ⊢
    exact hok.trans rfl |> fun _ => by simpa using hk0
  · simpa [okS, h1] using hok
theorem cnt0_set {l : List Slot} {i : Nat} {x s : Slot} (hs : l[i]? = some s) (h0 : x.st ≠ 0) : cnt 0 (l.set i x) + (if s.st = 0 then 1 else 0) = cnt 0 l := by
  induction l generalizing i with
  | nil => simp at hs
  | cons a l ih =>
    cases i with
    | zero => simp at hs; subst hs; simp [cnt, List.countP_cons, h0]
    | succ i =>
      have := ih (i := i) (by simpa using hs)
      simp only [cnt, List.set_cons_succ, List.countP_cons] at this ⊢
      omega
/-- a key is laid. -/
theorem okT.lay {l : List Slot} (h : okT l) {k v : Int} (hk0 : k ≠ 0) (hfree : 0 < cnt 0 (layL l k v)) : okT (layL l k v) := by
  obtain ⟨hi, hfs⟩ := findL_spec (key := k) h.pow
  have hn : 0 < l.length := by omega
  have hlen : (layL l k v).length = l.length := layL_length
  have hp' : Pow (layL l k v).length := by rw [hlen]; exact h.pow
  have hkk : hk (layL l k v) k = hk l k := by unfold hk; rw [hlen]
  have hfx : ∀ d, d < l.length → Q l k (hk l k) d → (findL l k).1 = (hk l k + d) % l.length → findL (layL l k v) k = ((findL l k).1, true) := by
    intro d hd hq he
    have : findL (layL l k v) k = ((hk (layL l k v) k + d) % (layL l k v).length, true) := by
      refine find_at hp' hfree (by omega) ?_ ?_ ?_
      · intro e hed
        unfold layL
        rw [set_sl hn]
        unfold layL at hkk
        rw [hkk, if_neg]
        · exact hq e hed
        · rw [he]
          intro c
          have := mod_inj (hk_lt (k := k) h.pow) (show e < l.length by omega) hd c
          omega
      · rw [hkk]; unfold layL; rw [set_sl hn, if_pos he.symm]
      · rw [hkk]; unfold layL; rw [set_sl hn, if_pos he.symm]
    rw [this, hkk, hlen, ← he]
  have hnew : findL (layL l k v) k = ((findL l k).1, true) := by
    cases hf : (findL l k).2 with
    | true =>
      obtain ⟨d, d1, d2, d3, _⟩ := find_true h.pow hf
      exact hfx d d1 d2 d3
    | false =>
      obtain ⟨d, d1, d2, d3, d4 | ⟨e, e1, e2, e3⟩⟩ := find_false h.pow h.free hf
      · exact hfx d d1 d2 d4
      · exact hfx e (by omega) (fun x hx => d2 x (by omega)) e2
  have hu : ∀ j s, l[j]? = some s → s.st = 1 → s.key = k → j = (findL l k).1 := by
    intro j s hj h1 hk
    have := (h.find hj h1).1
    rw [hk] at this
    rw [this]
  have hst : ∀ s, l[(findL l k).1]? = some s → s.st = 1 → s.key = k := by
    intro s hs h1
    cases hf : (findL l k).2 with
    | true =>
      obtain ⟨s', a, b, c⟩ := hfs hf
      rw [a] at hs; cases hs; exact c
    | false =>
      obtain ⟨d, d1, d2, d3, d4 | ⟨e, e1, e2, e3⟩⟩ := find_false h.pow h.free hf
      · rw [d4, sl_get hn] at hs; cases hs; omega
      · rw [e2, sl_get hn] at hs; cases hs; omega
  refine h.set hi (show (1:Int) ≠ 0 by decide) hfree (fun s hs h1 => .inr (hst s hs h1)) ?_ (fun _ j s hj h1 hk => hu j s hj h1 hk)
  have hnew' : findL (l.set (findL l k).1 ⟨1, k, v⟩) k = ((findL l k).1, true) := hnew
  simp [okS, hnew', hk0]
theorem okT.lay_has {l : List Slot} (h : okT l) {k v k' v' : Int} : Has (layL l k v) k' v' ↔ if k' = k then v' = v else Has l k' v' := by
  obtain ⟨hi, hfs⟩ := findL_spec (key := k) h.pow
  have hst : ∀ s, l[(findL l k).1]? = some s → s.st = 1 → s.key = k := by
    intro s hs h1
    have hn : 0 < l.length := by omega
    cases hf : (findL l k).2 with
    | true =>
      obtain ⟨s', a, b, c⟩ := hfs hf
      rw [a] at hs; cases hs; exact c
    | false =>
      obtain ⟨d, d1, d2, d3, d4 | ⟨e, e1, e2, e3⟩⟩ := find_false h.pow h.free hf
      · rw [d4, sl_get hn] at hs; cases hs; omega
      · rw [e2, sl_get hn] at hs; cases hs; omega
  constructor
  · rintro ⟨j, s, hj, h1, h2, h3⟩
    unfold layL at hj
    by_cases hji : j = (findL l k).1
    · subst hji
      rw [List.getElem?_set_self hi] at hj
      cases hj
      rw [if_pos h2.symm]
      exact h3.symm
    · rw [List.getElem?_set_ne (Ne.symm hji)] at hj
      rw [if_neg]
      · exact ⟨j, s, hj, h1, h2, h3⟩
      · intro c
        have := (h.find hj h1).1
        rw [h2, c] at this
        exact hji (by rw [this])
  · split
    · rename_i hkk
      rintro rfl
      exact ⟨_, _, List.getElem?_set_self hi, rfl, hkk.symm, rfl⟩
    · rename_i hkk
      rintro ⟨j, s, hj, h1, h2, h3⟩
      refine ⟨j, s, ?_, h1, h2, h3⟩
      unfold layL
      rw [List.getElem?_set_ne]
      · exact hj
      · rintro rfl
        exact hkk (h2.symm.trans (hst s hj h1))
/-- a key that is there goes. -/
theorem okT.del {l : List Slot} (h : okT l) {k : Int} (hf : (findL l k).2 = true) : okT (l.set (findL l k).1 ⟨2, 0, 0⟩) ∧ cnt 0 (l.set (findL l k).1 ⟨2, 0, 0⟩) = cnt 0 l ∧ ∀ k' v', Has (l.set (findL l k).1 ⟨2, 0, 0⟩) k' v' ↔ k' ≠ k ∧ Has l k' v' := by
  obtain ⟨hi, hfs⟩ := findL_spec (key := k) h.pow
  obtain ⟨s, hs, h1, h2⟩ := hfs hf
  have hc : cnt 0 (l.set (findL l k).1 ⟨2, 0, 0⟩) = cnt 0 l := cnt_set_eq hs (by omega) (by decide)
  refine ⟨h.set hi (by decide) (by rw [hc]; exact h.free) (fun _ _ _ => .inl (by decide)) (by simp [okS]) (fun c => by simp at c), hc, fun k' v' => ⟨?_, ?_⟩⟩
  · rintro ⟨j, x, hj, a1, a2, a3⟩
    by_cases hji : j = (findL l k).1
    · subst hji
      rw [List.getElem?_set_self hi] at hj
      cases hj
      simp at a1
    · rw [List.getElem?_set_ne (Ne.symm hji)] at hj
      refine ⟨?_, j, x, hj, a1, a2, a3⟩
      rintro rfl
      have := (h.find hj a1).1
      rw [a2] at this
      exact hji (by rw [this])
  · rintro ⟨hne, j, x, hj, a1, a2, a3⟩
    refine ⟨j, x, ?_, a1, a2, a3⟩
    rw [List.getElem?_set_ne]
    · exact hj
    · rintro rfl
      rw [hs] at hj
      cases hj
      exact hne (a2.symm.trans h2)
end Go.AM.G

set_option maxRecDepth 100000
namespace Go.AM.G
open Go Go.AM
theorem Has.len {l : List Slot} {k v : Int} (h : Has l k v) : 0 < l.length := by
  obtain ⟨j, s, hj, _⟩ := h
  have := (List.getElem?_eq_some_iff.1 hj).1
  omega
theorem okT.has_uniq {l : List Slot} (h : okT l) {k v v' : Int} (a : Has l k v) (b : Has l k v') : v = v' := by
  obtain ⟨j, s, hj, h1, h2, rfl⟩ := a
  obtain ⟨j', s', hj', h1', h2', rfl⟩ := b
  have := h.uniq hj h1 hj' h1' (h2.trans h2'.symm)
  subst this
  rw [hj] at hj'
  cases hj'
  rfl
theorem okT_zero {n : Nat} (h : Pow n) : okT (List.replicate n zeroS) := by
  have := h.le
  refine ⟨by simpa using h, by simp [cnt, zeroS, List.countP_replicate]; omega, fun i s hi => ?_⟩
  simp only [List.getElem?_replicate, Option.ite_none_right_eq_some, Option.some.injEq] at hi
  rw [← hi.2]
  simp [okS, zeroS]
theorem cnt0_lay {l : List Slot} {k v : Int} : cnt 0 l ≤ cnt 0 (layL l k v) + 1 := cnt_set
/-- a table laid anew, with part of the keys. -/
theorem anew_fold : ∀ (r : List Slot) (t : List Slot), okT t → cnt 1 r < cnt 0 t → (∀ s ∈ r, s.st = 1 → s.key ≠ 0) → (r.Pairwise fun a b => a.st = 1 → b.st = 1 → a.key ≠ b.key) → (∀ s ∈ r, s.st = 1 → ∀ v, ¬ Has t s.key v) →
    okT (r.foldl (fun t s => if s.st = 1 then layL t s.key s.val else t) t) ∧ (∀ k v, Has (r.foldl (fun t s => if s.st = 1 then layL t s.key s.val else t) t) k v ↔ Has t k v ∨ ∃ s ∈ r, s.st = 1 ∧ s.key = k ∧ s.val = v)
  | [], t, h, _, _, _, _ => ⟨h, fun k v => by simp⟩
  | a :: r, t, h, hc, hk, hp, hn => by
    simp only [List.foldl_cons]
    rw [List.pairwise_cons] at hp
    by_cases h1 : a.st = 1
    · rw [if_pos h1]
      have hca : cnt 1 (a :: r) = cnt 1 r + 1 := by simp [cnt, List.countP_cons, h1]
      rw [hca] at hc
      have h0 := cnt0_lay (l := t) (k := a.key) (v := a.val)
      have hok := h.lay (k := a.key) (v := a.val) (hk a (by simp) h1) (by omega)
      have hhas := fun k v => h.lay_has (k := a.key) (v := a.val) (k' := k) (v' := v)
      obtain ⟨a1, a2⟩ := anew_fold r _ hok (by omega) (fun s hs => hk s (by simp [hs])) hp.2 (fun s hs h1' v hv => by
        rw [hhas] at hv
        rw [if_neg (fun e => hp.1 s hs h1 h1' e.symm)] at hv
        exact hn s (by simp [hs]) h1' v hv)
      refine ⟨a1, fun k v => ?_⟩
      rw [a2, hhas]
      by_cases hka : k = a.key
      · rw [if_pos hka]
        constructor
        · rintro (rfl | ⟨s, hs, b1, b2, b3⟩)
          · exact .inr ⟨a, by simp, h1, hka.symm, rfl⟩
          · exact .inr ⟨s, by simp [hs], b1, b2, b3⟩
        · rintro (hv | ⟨s, hs, b1, b2, b3⟩)
          · exact absurd hv (by rw [hka]; exact hn a (by simp) h1 v)
          · rcases List.mem_cons.1 hs with rfl | hs
            · exact .inl b3.symm
            · exact .inr ⟨s, hs, b1, b2, b3⟩
      · rw [if_neg hka]
        constructor
        · rintro (hv | ⟨s, hs, b1, b2, b3⟩)
          · exact .inl hv
          · exact .inr ⟨s, by simp [hs], b1, b2, b3⟩
        · rintro (hv | ⟨s, hs, b1, b2, b3⟩)
          · exact .inl hv
          · rcases List.mem_cons.1 hs with rfl | hs
            · exact absurd b2.symm hka
            · exact .inr ⟨s, hs, b1, b2, b3⟩
    · rw [if_neg h1]
      have hca : cnt 1 (a :: r) = cnt 1 r := by simp [cnt, List.countP_cons, h1]
      rw [hca] at hc
      obtain ⟨a1, a2⟩ := anew_fold r t h hc (fun s hs => hk s (by simp [hs])) hp.2 (fun s hs => hn s (by simp [hs]))
      refine ⟨a1, fun k v => ?_⟩
      rw [a2]
      constructor
      · rintro (hv | ⟨s, hs, b1, b2, b3⟩)
        · exact .inl hv
        · exact .inr ⟨s, by simp [hs], b1, b2, b3⟩
      · rintro (hv | ⟨s, hs, b1, b2, b3⟩)
        · exact .inl hv
        · rcases List.mem_cons.1 hs with rfl | hs
          · exact absurd b1 h1
          · exact .inr ⟨s, hs, b1, b2, b3⟩
theorem has_iff {l : List Slot} {k v : Int} : Has l k v ↔ ∃ s ∈ l, s.st = 1 ∧ s.key = k ∧ s.val = v := by
  constructor
  · rintro ⟨j, s, hj, h⟩
    exact ⟨s, List.mem_of_getElem? hj, h⟩
  · rintro ⟨s, hs, h⟩
    obtain ⟨j, hj⟩ := List.getElem?_of_mem hs
    exact ⟨j, s, hj, h⟩
theorem okT.pair {l : List Slot} (h : okT l) : l.Pairwise fun a b => a.st = 1 → b.st = 1 → a.key ≠ b.key := by
  rw [List.pairwise_iff_getElem]
  intro i j hi hj hij h1 h2 hk
  have := h.uniq (List.getElem?_eq_getElem hi) h1 (List.getElem?_eq_getElem hj) h2 hk
  omega
/-- the slots of a right table that are used: their keys are apart, and not 0. -/
theorem valid_pair {l : List Slot} (h : validB l = true) : (∀ s ∈ l, s.st = 1 → s.key ≠ 0) ∧ l.Pairwise fun a b => a.st = 1 → b.st = 1 → a.key ≠ b.key := by
  rcases valid_iff.1 h with h | ⟨h, _⟩
  · have : l = [] := List.length_eq_zero_iff.1 h
    subst this
    exact ⟨by simp, List.Pairwise.nil⟩
  · refine ⟨fun s hs h1 => ?_, h.pair⟩
    obtain ⟨j, hj⟩ := List.getElem?_of_mem hs
    exact (h.find hj h1).2
theorem valid_anew {l : List Slot} (h : validB l = true) (hs : sizeL (cnt 1 l) ≤ 64) : okT (anewL l) ∧ ∀ k v, Has (anewL l) k v ↔ Has l k v := by
  have hc := sizeL_cases (cnt 1 l)
  have hp : Pow (sizeL (cnt 1 l) : Nat) := by unfold Pow; omega
  obtain ⟨h1, h2⟩ := valid_pair h
  have h0 : ∀ k v, ¬ Has (List.replicate (sizeL (cnt 1 l)) zeroS) k v := by
    rintro k v ⟨j, s, hj, a, _⟩
    simp only [List.getElem?_replicate, Option.ite_none_right_eq_some, Option.some.injEq] at hj
    rw [← hj.2] at a
    simp [zeroS] at a
  have he : cnt 0 (List.replicate (sizeL (cnt 1 l)) zeroS) = sizeL (cnt 1 l) := by simp [cnt, zeroS, List.countP_replicate]
  obtain ⟨a, b⟩ := anew_fold l _ (okT_zero hp) (by rw [he]; omega) h1 h2 (fun s _ _ => h0 s.key)
  refine ⟨a, fun k v => ?_⟩
  rw [has_iff (l := l)]
  refine (b k v).trans ⟨fun hh => hh.resolve_left (h0 k v), .inr⟩
theorem cnt_set_up {l : List Slot} {i : Nat} {s : Slot} {st : Int} : cnt st (l.set i s) ≤ cnt st l + 1 := by
  induction l generalizing i with
  | nil => simp [cnt]
  | cons a l ih =>
    cases i with
    | zero => simp only [List.set_cons_zero, cnt, List.countP_cons]; split <;> split <;> omega
    | succ i =>
      have := ih (i := i)
      simp only [List.set_cons_succ, cnt, List.countP_cons] at this ⊢
      omega
theorem anew_cnt {l : List Slot} : (anewL l).length = sizeL (cnt 1 l) ∧ sizeL (cnt 1 l) ≤ cnt 0 (anewL l) + cnt 1 l ∧ cnt 1 (anewL l) ≤ cnt 1 l := by
  have key : ∀ (k t : List Slot), (k.foldl (fun t s => if s.st = 1 then layL t s.key s.val else t) t).length = t.length ∧ cnt 0 t ≤ cnt 0 (k.foldl (fun t s => if s.st = 1 then layL t s.key s.val else t) t) + cnt 1 k ∧ cnt 1 (k.foldl (fun t s => if s.st = 1 then layL t s.key s.val else t) t) ≤ cnt 1 t + cnt 1 k := by
    intro k
    induction k with
    | nil => intro t; simp [cnt]
    | cons a k ih =>
      intro t
      simp only [List.foldl_cons]
      obtain ⟨h1, h2, h3⟩ := ih (if a.st = 1 then layL t a.key a.val else t)
      rw [h1]
      have e : cnt 1 (a :: k) = cnt 1 k + (if a.st = 1 then 1 else 0) := by simp [cnt, List.countP_cons]
      rw [e]
      split
      · rename_i hs
        rw [if_pos hs] at h2 h3
        have := cnt_set (l := t) (i := (findL t a.key).1) (s := ⟨1, a.key, a.val⟩) (st := 0)
        have := cnt_set_up (l := t) (i := (findL t a.key).1) (s := ⟨1, a.key, a.val⟩) (st := 1)
        refine ⟨layL_length, ?_, ?_⟩
        · unfold layL at h2 h3 ⊢
          omega
        · unfold layL at h2 h3 ⊢
          omega
      · rename_i hs
        rw [if_neg hs] at h2 h3
        exact ⟨rfl, by omega, by omega⟩
  obtain ⟨h1, h2, h3⟩ := key l (List.replicate (sizeL (cnt 1 l)) zeroS)
  have e0 : cnt 0 (List.replicate (sizeL (cnt 1 l)) zeroS) = sizeL (cnt 1 l) := by simp [cnt, zeroS, List.countP_replicate]
  have e1 : cnt 1 (List.replicate (sizeL (cnt 1 l)) zeroS) = 0 := by simp [cnt, zeroS, List.countP_replicate]
  rw [List.length_replicate] at h1
  rw [e0] at h2
  rw [e1] at h3
  exact ⟨h1, h2, by rw [Nat.zero_add] at h3; exact h3⟩
/-- what Put does to a right table. -/
theorem putL_valid {l : List Slot} {k v : Int} (h : validB l = true) (hk : k ≠ 0) :
    ((putL l k v).2 = 0 ∧ validB (putL l k v).1 = true ∧ okT (putL l k v).1 ∧ (∀ k' v', Has (putL l k v).1 k' v' ↔ if k' = k then v' = v else Has l k' v') ∧ cnt 1 (putL l k v).1 ≤ cnt 1 l + 1) ∨
    ((putL l k v).2 = 6 ∧ (putL l k v).1 = l ∧ 64 < sizeL (cnt 1 l)) := by
  unfold putL
  rw [if_pos h, if_neg hk]
  by_cases hn : needL l k = true
  · rw [if_pos hn]
    by_cases hs : sizeL (cnt 1 l) ≤ 64
    · rw [if_pos hs]
      obtain ⟨a1, a2⟩ := valid_anew h hs
      obtain ⟨c1, c2, c3⟩ := anew_cnt (l := l)
      have hc := sizeL_cases (cnt 1 l)
      have h0 := cnt0_lay (l := anewL l) (k := k) (v := v)
      have hok := a1.lay (k := k) (v := v) hk (by omega)
      refine .inl ⟨rfl, valid_iff.2 (.inr ⟨hok, ?_⟩), hok, fun k' v' => ?_, ?_⟩
      · dsimp only; rw [layL_length, c1]; omega
      · rw [a1.lay_has, a2]
      · exact Nat.le_trans cnt_set_up (by omega)
    · rw [if_neg hs]
      exact .inr ⟨rfl, rfl, by omega⟩
  · rw [if_neg hn]
    rcases valid_iff.1 h with h0 | ⟨h1, h4⟩
    · exact absurd (by simp [needL, findL, h0]) hn
    · obtain ⟨hi, hfs⟩ := findL_spec (key := k) h1.pow
      have hle := h1.pow.le
      obtain ⟨s, hs⟩ : ∃ s, l[(findL l k).1]? = some s := ⟨_, List.getElem?_eq_getElem hi⟩
      have hc0 : l.length ≤ 4 * cnt 0 (layL l k v) := by
        have hcs := cnt0_set (x := ⟨1, k, v⟩) hs (show (1:Int) ≠ 0 by decide)
        unfold layL
        split at hcs
        · rename_i h0
          have hf : (findL l k).2 = false := by
            cases hf : (findL l k).2 with
            | false => rfl
            | true =>
              obtain ⟨s', a, b, _⟩ := hfs hf
              rw [a] at hs; cases hs; omega
          have hl0 : ¬ l.length = 0 := by omega
          simp only [needL, hf, hs, h0, hl0, Bool.not_false, Bool.true_and, decide_false, Bool.false_or, Option.any_some, decide_true, decide_eq_true_eq] at hn
          omega
        · omega
      have hok := h1.lay (k := k) (v := v) hk (by omega)
      exact .inl ⟨rfl, valid_iff.2 (.inr ⟨hok, by rw [layL_length]; exact hc0⟩), hok, fun k' v' => h1.lay_has, cnt_set_up⟩
/-- what Get tells of a right table. -/
theorem getL_valid {l : List Slot} {k : Int} (h : validB l = true) (hk : k ≠ 0) : (∃ v, getL l k = (v, 0) ∧ Has l k v) ∨ (getL l k = (0, 3) ∧ ∀ v, ¬ Has l k v) := by
  unfold getL
  rw [if_pos h, if_neg hk]
  rcases valid_iff.1 h with h0 | ⟨h1, _⟩
  · rw [if_neg (by simp [findL, h0])]
    exact .inr ⟨rfl, fun v hv => by have := hv.len; omega⟩
  · by_cases hf : (findL l k).2 = true
    · rw [if_pos hf]
      obtain ⟨s, a, b, c⟩ := h1.found hf
      exact .inl ⟨s.val, by simp [a], _, s, a, b, c, rfl⟩
    · rw [if_neg hf]
      exact .inr ⟨rfl, fun v hv => hf (h1.found_iff.2 ⟨v, hv⟩)⟩
theorem getL_eq {l l' : List Slot} {k : Int} (h : validB l = true) (h' : validB l' = true) (hh : ∀ v, Has l k v ↔ Has l' k v) : getL l k = getL l' k := by
  by_cases hk : k = 0
  · simp [getL, h, h', hk]
  rcases getL_valid h hk with ⟨v, e, a⟩ | ⟨e, a⟩
  · rcases getL_valid h' hk with ⟨v', e', a'⟩ | ⟨e', a'⟩
    · rw [e, e']
      rcases valid_iff.1 h with h0 | ⟨h1, _⟩
      · have := a.len; omega
      · rw [h1.has_uniq a ((hh v').2 a')]
    · exact absurd ((hh v).1 a) (a' v)
  · rcases getL_valid h' hk with ⟨v', e', a'⟩ | ⟨e', a'⟩
    · exact absurd ((hh v').2 a') (a v')
    · rw [e, e']
theorem getL_bad {l : List Slot} {k : Int} (h : ¬ validB l = true) : getL l k = (0, 2) := by simp [getL, h]
theorem delL_valid {l : List Slot} {k : Int} (h : validB l = true) : validB (delL l [k]).1 = true ∧ (delL l [k]).2.2 = 0 ∧ (∀ k' v', Has (delL l [k]).1 k' v' ↔ k' ≠ k ∧ Has l k' v') ∧ ((∃ v, Has l k v) ∧ (delL l [k]).2.1 = 1 ∨ (∀ v, ¬ Has l k v) ∧ (delL l [k]).2.1 = 0) := by
  have e : delL l [k] = ((delStep (l, 0) k).1, ((delStep (l, 0) k).2 : Int), 0) := by simp [delL, h]
  rw [e]
  unfold delStep
  by_cases hf : (findL l k).2 = true
  · have hl : ¬ l.length = 0 := by intro h0; simp [findL, h0] at hf
    obtain ⟨h1, h4⟩ := (valid_iff.1 h).resolve_left hl
    obtain ⟨a, b, c⟩ := h1.del hf
    rw [if_pos hf]
    exact ⟨valid_iff.2 (.inr ⟨a, by rw [b, List.length_set]; exact h4⟩), rfl, c, .inl ⟨h1.found_iff.1 hf, rfl⟩⟩
  · have hno : ∀ v, ¬ Has l k v := by
      intro v hv
      have hl : ¬ l.length = 0 := by have := hv.len; omega
      obtain ⟨h1, h4⟩ := (valid_iff.1 h).resolve_left hl
      exact hf (h1.found_iff.2 ⟨v, hv⟩)
    rw [if_neg hf]
    refine ⟨h, rfl, fun k' v' => ⟨fun hv => ⟨?_, hv⟩, And.right⟩, .inr ⟨hno, rfl⟩⟩
    rintro rfl
    exact hno v' hv
end Go.AM.G
