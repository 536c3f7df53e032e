/- Slices: cutting, appending, copying, clearing. -/
import Derived.Test.YtdfbfcohindpnaaAmPrim5
set_option linter.unusedVariables false
set_option linter.unusedSimpArgs false
namespace Go.AM
open Go
section
variable {P : Program} {N : Nat} {φ : Phi} {fr : Frame} {m : Mem} {A : Act} {w : World} {o : Oper} {ao : AOp} {v : V} {m' : Mem}

theorem optC_sound (hA : RF φ N fr A) {x : Option Operand} {a : Option Arg} (h : optC N x = some a) :
    (x = none ∧ a = none) ∨ ∃ y b, x = some y ∧ a = some b ∧ R φ (b.get fr) (A.eval y) := by
  cases x with
  | none => simp [optC] at h; exact .inl ⟨rfl, h.symm⟩
  | some y =>
    simp only [optC, Option.map_eq_some_iff] at h
    obtain ⟨b, hb, rfl⟩ := h
    exact .inr ⟨y, b, rfl, rfl, argC_sound hA hb⟩
/-- a bound that was given, or not. -/
def Bd (d top : Nat) (c : Option Value) (n : Nat) : Prop := (c = none ∧ n = d) ∨ ∃ k i, c = some (.int k i) ∧ 0 ≤ i ∧ i ≤ (top : Int) ∧ n = i.toNat
theorem bound_sound (hA : RF φ N fr A) {x : Option Operand} {a : Option Arg} (h : optC N x = some a) {d top n : Nat} (hb : bound d top (a.map (·.get fr)) = some n) : Bd d top (x.map A.eval) n := by
  rcases optC_sound hA h with ⟨rfl, rfl⟩ | ⟨y, b, rfl, rfl, r⟩
  · simp [bound] at hb
    exact .inl ⟨rfl, hb.symm⟩
  · simp only [Option.map_some] at hb ⊢
    cases hv : b.get fr with
    | int k i =>
      rw [hv] at hb r
      simp only [bound] at hb
      split at hb
      · rename_i hc
        cases hb
        simp only [R] at r
        exact .inr ⟨k, i, by rw [r], hc.1, hc.2, rfl⟩
      · cases hb
    | _ => rw [hv] at hb; simp [bound] at hb
theorem run_bound {k : IntKind} {i : Int} {y : Nat} {code : BoundsCode} (h0 : 0 ≤ i) (h1 : i ≤ (y : Int)) (w : World) : (Instr.sliceBound (.int k i) y code).run P w = .ok i.toNat w := by
  simp [Instr.sliceBound, asIntOf, h0, h1]
theorem run_bounds {len cap l h mm : Nat} {lo hi mx : Option Value} (hm : Bd cap cap mx mm) (hh : Bd len mm hi h) (hl : Bd 0 h lo l) (hmh : mx ≠ none → hi ≠ none) (w : World) :
    (Instr.sliceBounds true len cap lo hi mx).run P w = .ok (l, h, mm) w := by
  rcases hm with ⟨rfl, rfl⟩ | ⟨km, im, rfl, m0, m1, rfl⟩ <;> rcases hh with ⟨rfl, rfl⟩ | ⟨kh, ih, rfl, h0, h1, rfl⟩ <;> rcases hl with ⟨rfl, rfl⟩ | ⟨kl, il, rfl, l0, l1, rfl⟩
  all_goals first
    | (exact absurd rfl (hmh (Option.some_ne_none _)))
    | simp only [Instr.sliceBounds, Sem.run_bind, Sem.run_pure, Result.andThen_ok, run_bound, m0, m1, h0, h1, l0, l1]
    | simp only [Instr.sliceBounds, Sem.run_bind, Sem.run_pure, Result.andThen_ok, run_bound, m0, m1, h0, h1]
    | simp only [Instr.sliceBounds, Sem.run_bind, Sem.run_pure, Result.andThen_ok, run_bound, h0, h1, l0, l1]
    | simp only [Instr.sliceBounds, Sem.run_bind, Sem.run_pure, Result.andThen_ok, run_bound, h0, h1]
    | simp only [Instr.sliceBounds, Sem.run_bind, Sem.run_pure, Result.andThen_ok, run_bound, l0, l1]
    | simp only [Instr.sliceBounds, Sem.run_bind, Sem.run_pure, Result.andThen_ok]
theorem does_slice (hst : St φ m w) (hA : RF φ N fr A) {t e : TypeId} {x : Operand} {lo hi mx : Option Operand} (ho : o.op = .slice t x lo hi mx) (he : elemT P t = some e) {n : Nat} (hn : sizeT P e = some n) (hmh : (mx.isSome && hi.isNone) = false)
    {a : Arg} {l h k : Option Arg} (ha : argC N x = some a) (hl : optC N lo = some l) (hh : optC N hi = some h) (hk : optC N mx = some k)
    {tgt : Option Nat} (hp : prim (.slice n a l h k) tgt fr m = some (v, m')) : Does0 P o A w φ m v m' := by
  simp only [prim] at hp
  split at hp
  case isFalse => cases hp
  rename_i hz
  rw [Option.map_eq_some_iff] at hp
  obtain ⟨q, hq, e'⟩ := hp
  cases e'
  have rx := argC_sound hA ha
  have hmh' : mx.map A.eval ≠ none → hi.map A.eval ≠ none := by
    intro h1 h2
    cases mx <;> cases hi <;> simp at h1 h2 hmh
  have ht := elemT_some he
  simp only [sizeT, Option.map_eq_some_iff] at hn
  obtain ⟨ti, hti, hsz⟩ := hn
  unfold sliceV at hq
  split at hq
  · rename_i hx
    simp only [Option.bind_eq_some_iff] at hq
    obtain ⟨mm, hm, h', hh', l', hl', e'⟩ := hq
    cases e'
    rw [hx] at rx
    simp only [R] at rx
    have b1 := bound_sound hA hk hm
    have b2 := bound_sound hA hh hh'
    have b3 := bound_sound hA hl hl'
    have m0 : mm = 0 := by
      rcases b1 with ⟨_, h⟩ | ⟨_, i, _, h0, h1, h⟩ <;> omega
    have h0 : h' = 0 := by
      rcases b2 with ⟨_, h⟩ | ⟨_, i, _, h0, h1, h⟩ <;> omega
    have l0 : l' = 0 := by
      rcases b3 with ⟨_, h⟩ | ⟨_, i, _, h0, h1, h⟩ <;> omega
    subst m0; subst h0; subst l0
    have hrun := run_bounds (P := P) b1 b2 b3 hmh' w
    refine Does.quiet hst (cv := .slice none 0 0) ?_ (by simp [R])
    simp [execOp, ho, Instr.sliceAt, run_underlying ht, Instr.slice, rx, hrun, sizeOf, typeInfo, hti]
  · rename_i b i len cap ex z hx
    simp only [Option.bind_eq_some_iff] at hq
    obtain ⟨mm, hm, h', hh', l', hl', e'⟩ := hq
    cases e'
    rw [hx] at rx hz
    simp only [zOk, decide_eq_true_eq] at hz
    subst hz
    simp only [R] at rx
    obtain ⟨p, ad, cap', hp, hpz, hcv, hcc, hex, hml, hlc, had, hfit⟩ := rx
    have b1 := bound_sound hA hk hm
    have b2 := bound_sound hA hh hh'
    have b3 := bound_sound hA hl hl'
    -- the model's own capacity bound
    obtain ⟨mc, c1, c2, c3, c4⟩ : ∃ mc, Bd cap' cap' (mx.map A.eval) mc ∧ mm ≤ mc ∧ mc ≤ cap' ∧ ((ex || (k.map (·.get fr)).isSome) = true → mm = mc) := by
      rcases b1 with ⟨h1, rfl⟩ | ⟨km, im, h1, h2, h3, rfl⟩
      · refine ⟨cap', .inl ⟨h1, rfl⟩, hcc, Nat.le_refl _, fun h => ?_⟩
        rcases optC_sound hA hk with ⟨rfl, rfl⟩ | ⟨y, b, rfl, rfl, r⟩
        · simp at h; exact (hex h).symm
        · simp at h1
      · exact ⟨im.toNat, .inr ⟨km, im, h1, h2, by omega, rfl⟩, Nat.le_refl _, by omega, fun _ => rfl⟩
    have b2' : Bd len mc (hi.map A.eval) h' := by
      rcases b2 with ⟨h1, rfl⟩ | ⟨kh, ih, h1, h2, h3, rfl⟩
      · exact .inl ⟨h1, rfl⟩
      · exact .inr ⟨kh, ih, h1, h2, by omega, rfl⟩
    have hhm : h' ≤ mc := by
      rcases b2 with ⟨h1, rfl⟩ | ⟨kh, ih, h1, h2, h3, rfl⟩
      · rcases c1 with ⟨h4, rfl⟩ | ⟨_, _, h4, _⟩
        · exact hlc
        · exact absurd h1 (hmh' (by rw [h4]; simp))
      · omega
    have hlh : l' ≤ h' := by
      rcases b3 with ⟨_, rfl⟩ | ⟨_, _, _, h2, h3, rfl⟩
      · omega
      · omega
    have hrun := run_bounds (P := P) c1 b2' b3 hmh' w
    by_cases hml' : mc = l'
    · subst hml'
      refine Does.quiet hst (cv := .slice (some ⟨p.blk, ad, none⟩) (h' - mc) (mc - mc)) ?_ ?_
      · simp [execOp, ho, Instr.sliceAt, run_underlying ht, Instr.slice, hcv, hrun, sizeOf, typeInfo, hti]
      · simp only [R]
        refine ⟨p, ad, mc - mc, hp, hpz, rfl, by omega, fun h => by have := c4 h; omega, by omega, by omega, .inr (by omega), ?_⟩
        have : mc - mc = 0 := by omega
        rw [this]
        have : ad ≤ ad + cap' * z := Nat.le_add_right _ _
        omega
    · refine Does.quiet hst (cv := .slice (some ⟨p.blk, ad + l' * z, none⟩) (h' - l') (mc - l')) ?_ ?_
      · simp [execOp, ho, Instr.sliceAt, run_underlying ht, Instr.slice, hcv, hrun, sizeOf, typeInfo, hti, hml', hsz, addr_add]
      · simp only [R]
        have had' : ad = p.base + i * z := by
          rcases had with h | h
          · exact h
          · omega
        refine ⟨p, ad + l' * z, mc - l', hp, hpz, rfl, by omega, fun h => by have := c4 h; omega, by omega, by omega, .inl (by rw [had', Nat.add_mul]; omega), ?_⟩
        have : ad + l' * z + (mc - l') * z = ad + mc * z := by
          rw [Nat.add_assoc, ← Nat.add_mul]; congr 2; omega
        rw [this]
        have := Nat.mul_le_mul_right z c3
        omega
  · cases hq

/-- the elements that a slice shows, as the model has them. -/
theorem elems_sound (hst : St φ m w) {y : V} {cy : Value} (ry : R φ y cy) {ys : List (List V)} (h : elems m y = some ys) {z : Nat} (hz : zOk y z = true) :
    ∃ news : List Value, Rs φ ys.flatten news ∧ news.length = ys.length * z ∧ Wf z ys ∧
      ((cy = .slice none 0 0 ∧ ys = []) ∨ ∃ B a c, cy = .slice (some ⟨B, a, none⟩) ys.length c ∧ ∀ j u, news[j]? = some u → w.cell? ((⟨B, a, none⟩ : Addr).add j) = some u) := by
  unfold elems at h
  split at h
  · cases h
    simp only [R] at ry
    exact ⟨[], rfl, by simp, by simp [Wf], .inl ⟨ry, rfl⟩⟩
  · rename_i b i len cap ex z'
    simp only [zOk, decide_eq_true_eq] at hz
    subst hz
    simp only [R] at ry
    obtain ⟨p, ad, cap', hp, hpz, hcv, hcc, hex, hml, hlc, had, hfit⟩ := ry
    split at h
    · rename_i own els hb
      split at h
      · rename_i hin
        cases h
        obtain ⟨q, hq, hr⟩ := hst.blk b own els hb
        rw [hp] at hq; cases hq
        obtain ⟨c, e, frz, u, bb, r, yy, g1, g2, g3, g4, g5, g6, g7, _⟩ := hr.cut (i := i) (n := len) hin
        have hlen : ((els.drop i).take len).length = len := by simp; omega
        refine ⟨bb, g7, by rw [g6, hpz, hlen], by rw [← hpz]; exact (hr.wf.drop i).take len, .inr ⟨p.blk, ad, cap', by rw [hcv, hlen], fun j x hx => ?_⟩⟩
        rw [addr_add]
        have hj : j < bb.length := (List.getElem?_eq_some_iff.1 hx).1
        have had' : ad = p.base + i * z' := by
          rcases had with h | h
          · exact h
          · have : len = 0 := by omega
            rw [g6, this] at hj; omega
        rw [had', ← hpz, ← g5]
        exact cell_at g1 g4 hx
      · cases h
    · cases h
  · cases h
theorem zeros_no {t e : TypeId} (h : P.underlying t = some (.slice e)) (w : World) : (do pure ((← underlying t) matches .int _) : Sem Bool).run P w = .ok false w := by
  simp [run_underlying h]
theorem run_append_nothing' {t ty e : TypeId} {i : TypeInfo} (ht : P.underlying t = some (.slice e)) (hi : P.info? e = some i) {base : Option Addr} {sLen sCap : Nat} (hle : sLen ≤ sCap) {y : Value} (hy : y = .slice none 0 0 ∨ ∃ B a c, y = .slice (some ⟨B, a, none⟩) 0 c) (w : World) :
    (Builtin.append_ #[t, t] ty #[.slice base sLen sCap, y]).run P w = .ok (.slice base sLen sCap) w := by
  rcases hy with rfl | ⟨B, a, c, rfl⟩
  · cases base <;> simp [Builtin.append_, run_underlying ht, sizeOf, typeInfo, hi, Builtin.lenOf, hle, Builtin.firstCells, storeCells]
  · cases base <;> simp [Builtin.append_, run_underlying ht, sizeOf, typeInfo, hi, Builtin.lenOf, hle, Builtin.firstCells, loadCells, loadCellsFrom, storeCells]
theorem run_append_room' {t ty e : TypeId} {i : TypeInfo} (ht : P.underlying t = some (.slice e)) (hi : P.info? e = some i) {B off sLen sCap : Nat} {B' a' k c' : Nat} {news : List Value} (hl : news.length = k * i.size) (hn : ∀ j u, news[j]? = some u → w.cell? ((⟨B', a', none⟩ : Addr).add j) = some u)
    (h1 : ∀ x ∈ news, x.oneCell' = true) (hroom : sLen + k ≤ sCap) {c : Array Value} {e' : TypeId} (hB : w.heap[B]? = some (.cells c e' (0, 0))) {u b r : List Value} (hc : c.toList = u ++ (b ++ r)) (hu : u.length = off + sLen * i.size) (hb : news.length = b.length) :
    (Builtin.append_ #[t, t] ty #[.slice (some ⟨B, off, none⟩) sLen sCap, .slice (some ⟨B', a', none⟩) k c']).run P w = .ok (.slice (some ⟨B, off, none⟩) (sLen + k) sCap) (w.setRow B (u ++ (news ++ r)).toArray) := by
  have hfc := run_firstCells_some (P := P) w i.size k ⟨B', a', none⟩ k c' news hl hn
  have hst := run_write (P := P) hB hc hb h1
  rw [hu] at hst
  simp [Builtin.append_, run_underlying ht, sizeOf, typeInfo, hi, Builtin.lenOf, hroom, hfc, addr_add, hst]
end
end Go.AM
