/- Operations that only compute. -/
import Derived.Test.YtdfbfcohindpnaaAmPrim2
set_option linter.unusedVariables false
set_option linter.unusedSimpArgs false
namespace Go.AM
open Go
section
variable {P : Program} {N : Nat} {φ : Phi} {fr : Frame} {m : Mem} {A : Act} {w : World} {o : Oper} {ao : AOp} {v : V} {m' : Mem}

theorem does_nilck (hst : St φ m w) (hA : RF φ N fr A) {x : Operand} (ho : o.op = .nilCheck x) {a : Arg} (ha : argC N x = some a) {tgt : Option Nat} (hp : prim (.nilck a) tgt fr m = some (v, m')) : Does0 P o A w φ m v m' := by
  simp only [prim] at hp
  split at hp
  · rename_i b i j hb
    cases hp
    have hx := argC_sound hA ha
    rw [hb] at hx
    have hx' := hx
    simp only [R] at hx'
    obtain ⟨p, hp, e⟩ := hx'
    refine Does.quiet hst (cv := A.eval x) ?_ hx
    simp [execOp, ho, e]
  · cases hp

theorem binI_sound {op : BinOp} {k : IntKind} {a b : Int} (h : binI op k a b = some v) (hsh : op ≠ .shl ∧ op ≠ .shr) (t : TypeId) :
    ∃ c, (binOp op t (.int k a) (.int k b)).run P w = .ok c w ∧ R φ v c := by
  cases op <;> simp only [binI] at h
  case shl => exact absurd rfl hsh.1
  case shr => exact absurd rfl hsh.2
  case quo =>
    split at h
    · cases h
    · rename_i h0
      cases h
      exact ⟨_, by simp [binOp, Op.intDiv, h0]; rfl, by simp [R]⟩
  case rem =>
    split at h
    · cases h
    · rename_i h0
      cases h
      exact ⟨_, by simp [binOp, Op.intDiv, h0]; rfl, by simp [R]⟩
  all_goals
    cases h
    refine ⟨_, by simp only [binOp, ne_eq, not_true_eq_false, if_false, Op.intArith, Op.intBits, Op.intCmp, Sem.run_pure]; rfl, ?_⟩
    first
      | (simp [R]; done)
      | (simp only [R]; rfl)
      | (simp only [R, bne, ne_eq, decide_not]; rfl)
theorem shI_sound {op : BinOp} {k k' : IntKind} {a b : Int} (h : shI op k a b = some v) (t : TypeId) :
    (op = .shl ∨ op = .shr) ∧ ∃ c, (binOp op t (.int k a) (.int k' b)).run P w = .ok c w ∧ R φ v c := by
  unfold shI at h
  split at h
  · cases h
  · rename_i h0
    have h0' : ¬ b < 0 := h0
    cases op <;> simp at h
    · subst h
      exact ⟨.inl rfl, _, by simp [binOp, Op.shift, h0']; rfl, by simp [R]⟩
    · subst h
      exact ⟨.inr rfl, _, by simp [binOp, Op.shift, h0']; rfl, by simp [R]⟩
theorem bin_sound {op : BinOp} {x y : V} {cx cy : Value} (rx : R φ x cx) (ry : R φ y cy) (h : bin op x y = some v) (t : TypeId) :
    ∃ c, (do eqGuard op t (.const cx) (.const cy) cx cy; binOp op t cx cy : Sem Value).run P w = .ok c w ∧ R φ v c ∧ (∀ x y : Operand, (eqGuard op t x y cx cy).run P w = .ok () w) ∧ (binOp op t cx cy).run P w = .ok c w := by
  have key : ∃ k a k' b, cx = .int k a ∧ cy = .int k' b ∧ ∃ c, (binOp op t (.int k a) (.int k' b)).run P w = .ok c w ∧ R φ v c := by
    unfold bin at h
    split at h
    · simp only [R] at rx ry
      subst rx; subst ry
      exact ⟨_, _, _, _, rfl, rfl, (shI_sound h t).2⟩
    · simp only [R] at rx ry
      subst rx; subst ry
      exact ⟨_, _, _, _, rfl, rfl, (shI_sound h t).2⟩
    · rename_i hn1 hn2
      split at h
      · rename_i hk
        subst hk
        simp only [R] at rx ry
        subst rx; subst ry
        refine ⟨_, _, _, _, rfl, rfl, binI_sound h ⟨fun e => ?_, fun e => ?_⟩ t⟩
        · subst e; simp [binI] at h
        · subst e; simp [binI] at h
      · cases h
    · cases h
  obtain ⟨k, a, k', b, rfl, rfl, c, hc, hr⟩ := key
  have hg : ∀ x y : Operand, (eqGuard op t x y (.int k a) (.int k' b)).run P w = .ok () w := by
    intro x y
    unfold eqGuard
    cases op <;> simp
  exact ⟨c, by simp [hg, hc], hr, hg, hc⟩
theorem does_bin (hst : St φ m w) (hA : RF φ N fr A) {op : BinOp} {t u : TypeId} {x y : Operand} (ho : o.op = .binOp op t x y u) {a b : Arg} (ha : argC N x = some a) (hb : argC N y = some b) {tgt : Option Nat} (hp : prim (.bin op a b) tgt fr m = some (v, m')) : Does0 P o A w φ m v m' := by
  simp only [prim, Option.map_eq_some_iff] at hp
  obtain ⟨q, hq, e⟩ := hp
  cases e
  obtain ⟨c, _, hr, hg, hc⟩ := bin_sound (P := P) (w := w) (argC_sound hA ha) (argC_sound hA hb) hq t
  exact Does.quiet hst (by simp [execOp, ho, hg, hc]) hr

/-! equality -/
theorem eqL_len : ∀ {sh : List Bool} {xs ys : List V} {r : Bool}, eqL sh xs ys = some r → xs.length = sh.length ∧ ys.length = sh.length
  | [], [], [], _, _ => by simp
  | [], [], y :: ys, _, h => by simp [eqL] at h
  | [], x :: xs, ys, _, h => by simp [eqL] at h
  | s :: sh, [], ys, _, h => by cases s <;> simp [eqL] at h
  | s :: sh, x :: xs, [], _, h => by cases s <;> cases x <;> simp [eqL] at h
  | s :: sh, x :: xs, y :: ys, r, h => by
    cases s <;> cases x <;> cases y <;> simp only [eqL] at h <;> try cases h
    · split at h
      · rw [Option.map_eq_some_iff] at h
        obtain ⟨q, hq, _⟩ := h
        have := eqL_len hq
        simp [this]
      · cases h
    · rw [Option.map_eq_some_iff] at h
      obtain ⟨q, hq, _⟩ := h
      have := eqL_len hq
      simp [this]
theorem eqL_append : ∀ {s1 s2 : List Bool} {xs ys : List V} {r : Bool}, eqL (s1 ++ s2) xs ys = some r →
    ∃ r1 r2, eqL s1 (xs.take s1.length) (ys.take s1.length) = some r1 ∧ eqL s2 (xs.drop s1.length) (ys.drop s1.length) = some r2 ∧ r = (r1 && r2)
  | [], s2, xs, ys, r, h => ⟨true, r, by simp [eqL], by simpa using h, by simp⟩
  | s :: s1, s2, [], ys, r, h => by cases s <;> simp [eqL] at h
  | s :: s1, s2, x :: xs, [], r, h => by cases s <;> cases x <;> simp [eqL] at h
  | s :: s1, s2, x :: xs, y :: ys, r, h => by
    cases s <;> cases x <;> cases y <;> simp only [List.cons_append, eqL] at h <;> try cases h
    · split at h
      · rename_i hk
        rw [Option.map_eq_some_iff] at h
        obtain ⟨q, hq, rfl⟩ := h
        obtain ⟨r1, r2, h1, h2, rfl⟩ := eqL_append hq
        exact ⟨_, r2, by simp only [List.length_cons, List.take_succ_cons, eqL, h1, Option.map_some, if_pos hk]; rfl, by simpa using h2, by simp [Bool.and_assoc]⟩
      · cases h
    · rw [Option.map_eq_some_iff] at h
      obtain ⟨q, hq, rfl⟩ := h
      obtain ⟨r1, r2, h1, h2, rfl⟩ := eqL_append hq
      exact ⟨_, r2, by simp only [List.length_cons, List.take_succ_cons, eqL, h1, Option.map_some]; rfl, by simpa using h2, by simp [Bool.and_assoc]⟩
/-- the value of a type that some cells make. -/
def Made (P : Program) (t : TypeId) (l : List Value) (c : Value) : Prop :=
  (aggT P t = some true ∧ c = .agg l.toArray) ∨ (aggT P t = some false ∧ l = [c])
theorem run_part {t : TypeId} {i : TypeInfo} (hi : P.info? t = some i) {ag : Bool} (ha : aggT P t = some ag) (h1 : ag = false → i.size = 1) {l : List Value} {off : Nat} (hl : off + i.size ≤ l.length) (w : World) :
    ∃ c, (Go.part t l.toArray off).run P w = .ok c w ∧ Made P t ((l.drop off).take i.size) c := by
  have hd := ha
  unfold aggT at hd
  cases hu : P.underlying t with
  | none => simp [hu] at hd
  | some d =>
    have hag : (isAgg t).run P w = .ok ag w := by
      simp only [hu, Option.map_some, Option.some.injEq] at hd
      cases d <;> simp at hd <;> subst hd <;> simp [isAgg, run_underlying hu]
    cases ag with
    | true =>
      refine ⟨.agg ((l.drop off).take i.size).toArray, ?_, .inl ⟨ha, rfl⟩⟩
      simp only [Go.part, Sem.run_bind, hag, Result.andThen_ok, if_true, sizeOf, typeInfo, run_program, hi, Sem.run_pure]
      congr 2
      apply Array.ext'
      simp
    | false =>
      have h1 := h1 rfl
      have hlt : off < l.length := by omega
      refine ⟨l[off], ?_, .inr ⟨ha, ?_⟩⟩
      · simp [Go.part, hag, hlt]
      · rw [h1, List.drop_eq_getElem_cons hlt, List.take_succ_cons, List.take_zero]
theorem flatShape_kind {d : Nat} {t : TypeId} {sh : List Bool} (h : flatShape P d t = some sh) : ∃ ag, aggT P t = some ag ∧ (ag = false → sh.length = 1) := by
  cases d with
  | zero => simp [flatShape] at h
  | succ d =>
    simp only [flatShape] at h
    unfold aggT
    split at h
    · rename_i hu; cases h; exact ⟨false, by simp [hu], fun _ => rfl⟩
    · rename_i hu; cases h; exact ⟨false, by simp [hu], fun _ => rfl⟩
    · rename_i hu; exact ⟨true, by simp [hu], fun h => by cases h⟩
    · cases h
theorem eqFields_sound (d : Nat) {xs ys : List V} {lx ly : List Value} (hx : Rs φ xs lx) (hy : Rs φ ys ly) (hlen : ys.length = xs.length) (w : World)
    (ih : ∀ (t : TypeId) (sh : List Bool), flatShape P d t = some sh → ∀ (us vs : List V) (lu lv : List Value) (r : Bool) (cu cv : Value), Rs φ us lu → Rs φ vs lv → eqL sh us vs = some r → Made P t lu cu → Made P t lv cv → ∀ D, d ≤ D → (Op.equalIn D t cu cv).run P w = .ok r w) (D : Nat) (hD : d ≤ D) :
    ∀ (fs : List Field) (off : Nat) (sh : List Bool) (r : Bool), flatShapes P (flatShape P d) off fs = some sh → eqL sh (xs.drop off) (ys.drop off) = some r → (Op.eqFields D lx.toArray ly.toArray fs).run P w = .ok r w
  | [], off, sh, r, hc, he => by
    simp only [flatShapes, Option.some.injEq] at hc
    subst hc
    have h := eqL_len he
    cases h1 : xs.drop off with
    | nil =>
      cases h2 : ys.drop off with
      | nil => rw [h1, h2] at he; simp [eqL] at he; simp [Op.eqFields, ← he]
      | cons a b => simp [h2] at h
    | cons a b => simp [h1] at h
  | f :: fs, off, sh, r, hc, he => by
    simp only [flatShapes] at hc
    split at hc
    · rename_i a ha
      split at hc
      · rename_i hcond
        obtain ⟨ho, hname, hsize⟩ := hcond
        rw [Option.map_eq_some_iff] at hc
        obtain ⟨sh', hsh', rfl⟩ := hc
        obtain ⟨r1, r2, h1, h2, rfl⟩ := eqL_append he
        rw [List.drop_drop] at h2
        rw [List.drop_drop] at h2
        have hle : off + a.length ≤ xs.length ∨ a.length = 0 := by
          have h3 := (eqL_len h1).1
          simp at h3
          omega
        obtain ⟨i, hi, hsz⟩ : ∃ i, P.info? f.type = some i ∧ i.size = a.length := by
          simp only [sizeT, Option.map_eq_some_iff] at hsize
          exact hsize
        obtain ⟨ag, hag, hag1⟩ := flatShape_kind ha
        have hle' : off + i.size ≤ xs.length ∨ (i.size = 0 ∧ ag = true) := by
          rcases hle with hle | hle
          · exact .inl (by omega)
          · cases ag with
            | true => exact .inr ⟨by omega, rfl⟩
            | false => have := hag1 rfl; omega
        have pp : ∀ {l : List Value}, l.length = xs.length → ∃ c, (Go.part f.type l.toArray off).run P w = .ok c w ∧ Made P f.type ((l.drop off).take i.size) c := by
          intro l hl
          rcases hle' with hle' | ⟨hz, rfl⟩
          · exact run_part hi hag (fun e => by rw [hsz]; exact hag1 e) (by omega) w
          · refine ⟨.agg ((l.drop off).take i.size).toArray, ?_, .inl ⟨hag, rfl⟩⟩
            have hd := hag
            unfold aggT at hd
            cases hu : P.underlying f.type with
            | none => simp [hu] at hd
            | some d =>
              have hag' : (isAgg f.type).run P w = .ok true w := by
                simp only [hu, Option.map_some, Option.some.injEq] at hd
                cases d <;> simp at hd <;> simp [isAgg, run_underlying hu]
              simp only [Go.part, Sem.run_bind, hag', Result.andThen_ok, if_true, sizeOf, typeInfo, run_program, hi, Sem.run_pure]
              congr 2
              apply Array.ext'
              simp
        obtain ⟨cx, px, mx⟩ := pp hx.len
        obtain ⟨cy, py, my⟩ := pp (by rw [hy.len, hlen])
        rw [hsz] at mx my
        have hq := ih f.type a ha _ _ _ _ r1 cx cy ((hx.drop off).take a.length) ((hy.drop off).take a.length) h1 mx my D hD
        simp only [Op.eqFields, ho, ne_eq, hname, not_false_eq_true, if_true, Sem.run_bind, px, py, hq, Result.andThen_ok]
        cases r1 with
        | false => simp
        | true => simpa using eqFields_sound d hx hy hlen w ih D hD fs (off + a.length) sh' r2 hsh' h2
      · cases hc
    · cases hc
theorem flatShape_sound (w : World) : ∀ (d : Nat) (t : TypeId) (sh : List Bool), flatShape P d t = some sh → ∀ (us vs : List V) (lu lv : List Value) (r : Bool) (cu cv : Value), Rs φ us lu → Rs φ vs lv → eqL sh us vs = some r → Made P t lu cu → Made P t lv cv →
    ∀ D, d ≤ D → (Op.equalIn D t cu cv).run P w = .ok r w
  | 0, t, sh, h => by simp [flatShape] at h
  | d + 1, t, sh, h => by
    intro us vs lu lv r cu cv hu hv he mu mv D hD
    obtain ⟨D, rfl⟩ : ∃ E, D = E + 1 := ⟨D - 1, by omega⟩
    have h' := h
    simp only [flatShape] at h
    split at h
    · rename_i hty
      cases h
      have ha : aggT P t = some false := by simp [aggT, hty]
      rcases mu with ⟨h1, _⟩ | ⟨_, rfl⟩
      · rw [ha] at h1; cases h1
      rcases mv with ⟨h1, _⟩ | ⟨_, rfl⟩
      · rw [ha] at h1; cases h1
      match us, vs, he with
      | .bool a :: xs, .bool b :: ys, he =>
        have hl := eqL_len he
        simp at hl
        obtain ⟨rfl, rfl⟩ := hl
        simp only [Rs, R] at hu hv
        obtain ⟨c, tt, e1, r1, _⟩ := hu
        obtain ⟨c', tt', e2, r2, r3⟩ := hv
        cases e1; cases e2; subst r1; subst r2
        simp [eqL] at he
        subst he
        simp only [Op.equalIn, Sem.run_bind, run_underlying hty, Result.andThen_ok, Sem.run_pure]
        rfl
    · rename_i k hty
      cases h
      have ha : aggT P t = some false := by simp [aggT, hty]
      rcases mu with ⟨h1, _⟩ | ⟨_, rfl⟩
      · rw [ha] at h1; cases h1
      rcases mv with ⟨h1, _⟩ | ⟨_, rfl⟩
      · rw [ha] at h1; cases h1
      match us, vs, he with
      | .int k1 a :: xs, .int k2 b :: ys, he =>
        have hl := eqL_len he
        simp at hl
        obtain ⟨rfl, rfl⟩ := hl
        simp only [Rs, R] at hu hv
        obtain ⟨c, tt, e1, r1, _⟩ := hu
        obtain ⟨c', tt', e2, r2, r3⟩ := hv
        cases e1; cases e2; subst r1; subst r2
        simp [eqL] at he
        obtain ⟨rfl, rfl⟩ := he
        simp only [Op.equalIn, Sem.run_bind, run_underlying hty, Result.andThen_ok, if_true, Sem.run_pure]
        rfl
    · rename_i fields hty
      split at h
      · rename_i hst
        have ha : aggT P t = some true := by simp [aggT, hty]
        rcases mu with ⟨_, rfl⟩ | ⟨h1, _⟩
        rcases mv with ⟨_, rfl⟩ | ⟨h1, _⟩
        · have hf : P.fieldsOf t = fields := by simp [Program.fieldsOf, hty]
          rw [run_equalIn_struct w D t _ _ (by rw [hf]; exact hty) hst, hf]
          have hl := eqL_len he
          exact eqFields_sound d hu hv (by omega) w (fun t sh hs => flatShape_sound w d t sh hs) D (by omega) fields.toList 0 sh r h (by simpa using he)
        · rw [ha] at h1; cases h1
        · rw [ha] at h1; cases h1
      · cases h
    · cases h
end
end Go.AM
