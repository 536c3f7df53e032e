/- All objects' addresses, as the document tells them; an object's references, one by one. -/
import Derived.Test.YtkimcedmfnoeoaaGreatDoorHpV
set_option linter.unusedVariables false
set_option linter.unusedSimpArgs false
set_option maxRecDepth 100000
namespace Go.AM.G
open Go Go.AM
def curs : List ObA → List Nat
 | [] => []
 | o :: l => if o.cur = true then o.addr :: curs l else curs l
theorem curs_app {l k : List ObA} : curs (l ++ k) = curs l ++ curs k := by
 induction l with
 | nil => rfl
 | cons o l ih =>
  show (if o.cur = true then o.addr :: curs (l ++ k) else curs (l ++ k)) = _ ++ curs k
  by_cases h : o.cur = true
  ·rw [if_pos h, ih]
   show _ = (if o.cur = true then o.addr :: curs l else curs l) ++ curs k
   rw [if_pos h]; rfl
  ·rw [if_neg h, ih]
   show _ = (if o.cur = true then o.addr :: curs l else curs l) ++ curs k
   rw [if_neg h]
theorem curs_len {l : List ObA} : (curs l).length ≤ l.length := by
 induction l with
 | nil => exact Nat.le_refl _
 | cons o l ih =>
  unfold curs
  split <;> simp <;> omega
theorem curs_take {l : List ObA} {k : Nat} (hk : k < l.length) : curs (l.take (k + 1)) = if (ob l k).cur = true then curs (l.take k) ++ [(ob l k).addr] else curs (l.take k) := by
 rw [List.take_add_one, ob_get hk, curs_app]
 show _ ++ (if (ob l k).cur = true then [(ob l k).addr] else []) = _
 split <;> simp
abbrev u64l (l : List Nat) : List (List V) := l.map fun a => [V.int .u64 (a : Nat)]
def objR (H : HeapA) (m : Mem) (r : V) (m' : Mem) : Prop := (H.right ∧ ∃ g v, m' = m ++ g ∧ r = .tup [v, .int .i64 0] ∧ Gw m.length g v 1 (u64l (curs (obs H H.ns)))) ∨ (¬ H.right ∧ r = .tup [.nils, .int .i64 2] ∧ Grow m m')
theorem ref_Objects_spec {m : Mem} {aw uw sv : V} {va vm : Nat → V} {H : HeapA} (h : HpRd m aw uw sv va vm H) : C S n_ref07_Objects [.agg (heapV H aw uw sv)] m (fun r m' => objR H m r m') := by
 have A := h.a.ar
 have B := h.u.ar
 have D := h.s.s.ar
 have pb := @pushB_mk
 refine fn rfl ?_
 refine (ref_Check_spec h.app).mono ?_
 rintro _ _ ⟨⟨hr, rfl⟩ | ⟨hr, rfl⟩, ⟨g1, rfl⟩⟩
 case inr =>
  have hr' := PLift.up hr
  clear hr
  refine am ?_
  exact .inr ⟨hr'.down, rfl, _, rfl⟩
 have hr' := PLift.up hr
 clear hr
 refine am ?_
 refine (all_spec h.app hr'.down.1).mono ?_
 rintro _ _ ⟨ov, g2, rfl, ⟨hk, rfl, hG⟩ | ⟨hk, rfl⟩⟩
 case inr => exact absurd hr'.down.2.1 hk
 obtain ⟨l, el⟩ : ∃ l, obs H H.ns = l := ⟨_, rfl⟩
 have hol := obs_small hr'.down.1
 rw [el] at hG hol
 have oc := hG.cell
 have hO : ∀ X, Obs (m ++ .cells true [heapV H aw uw sv] :: (g1 ++ (g2 ++ X))) ov l := fun X => by
  have := Gw.obs (G := X) (A := m ++ .cells true [heapV H aw uw sv] :: g1) hG.cast
  simpa only [List.append_assoc, List.cons_append, List.nil_append, List.append_nil] using this
 obtain ⟨b1, b2, b3, b4, _⟩ := (hO []).ar
 have b5 : ∀ X (i o : Nat) (k : Option Nat), i < l.length → loadV (m ++ .cells true [heapV H aw uw sv] :: (g1 ++ (g2 ++ X))) k (atp ov i o) = part (obV (ob l i)) o k := fun X i o k hi => (hO X).ar.2.2.2.2 i o k hi
 have el' := PLift.up el
 clear hk hG hO el
 refine am ?_
 refine range (α := V) l.length (fun v => [(4, v), (17, ov)]) (fun k v M => ∃ g, M = m ++ .cells true [heapV H aw uw sv] :: (g1 ++ (g2 ++ g)) ∧ Gw (m.length + (g1.length + g2.length + 1)) g v 1 (u64l (curs (l.take k)))) .nils ⟨[], by simp only [List.append_nil], .inl ⟨rfl, rfl⟩⟩ ?_ ?_
 ·rintro k v fr _ hk F ⟨g, rfl, hG⟩
  have et := PLift.up (curs_take hk)
  have hcl : (curs (l.take k)).length ≤ 2048 := by
   have := @curs_len (l.take k)
   simp only [List.length_take] at this; omega
  have vc := hG.cell
  obtain ⟨els, he⟩ : ∃ els, u64l (curs (l.take k)) = els := ⟨_, rfl⟩
  have hl : els.length ≤ 2048 := by rw [← he, List.length_map]; exact hcl
  rw [he] at hG
  have he' := PLift.up he
  clear he hcl
  cases hc : (ob l k).cur with
  | false =>
   refine am ?_
   refine ⟨v, byam, _, rfl, ?_⟩
   rw [et.down, hc, if_neg (by decide), he'.down]
   exact hG.app
  | true =>
   obtain ⟨g', l1, _, hp⟩ := Gw.push (A := m ++ .cells true [heapV H aw uw sv] :: (g1 ++ g2)) (zero := [.int .u64 0]) (bytes := 8) (hG.cast) rfl (by simp [roomy]; omega)
   simp only [List.append_assoc, List.cons_append, List.length_append, List.length_cons] at hp
   have l1' := PLift.up l1
   clear hG l1 hl
   refine am ?_
   refine ⟨.slice (m.length + (g1.length + g2.length + 1) + (g.length + (1 + 1))) 0 (els.length + 1) (els.length + 1) false 1, byam, _, rfl, ?_⟩
   rw [et.down, hc, if_pos rfl, u64l, List.map_append, ← u64l, he'.down]
   refine .inr ⟨_, (by rw [List.length_append]; rfl), ?_⟩
   rw [← l1'.down]
   exact byam
 ·rintro v fr _ F ⟨g, rfl, hG⟩
  rw [List.take_length] at hG
  have hG' := PLift.up hG
  clear hG
  refine am ?_
  refine .inl ⟨hr'.down, _, v, rfl, rfl, ?_⟩
  rw [el'.down]
  have h1 : Gw (m.length + (.cells true [heapV H aw uw sv] :: (g1 ++ g2)).length) g v 1 (u64l (curs l)) := hG'.down.cast
  have := Gw.pre _ h1
  simpa only [List.append_assoc, List.cons_append] using this
theorem Refs_1_spec {M : Mem} {c w : Nat} {own : Bool} {each : V} {Q : Mem → Prop} (h : M[c]? = some (.cells own [[each]])) (hc : each.isCell = true) (hQ : CV S each [.int .u64 (w : Nat)] M (fun _ M' => Q M')) : C S n_heap_Refs_1 [.int .u64 (w : Nat), .ptr c 0 0] M (fun r M' => r = .bool true ∧ Q M') := by
 have hQ' := PLift.up hQ
 clear hQ
 refine fn rfl ?_
 refine CV_mono hQ'.down ?_
 rintro r M' h
 have h' := PLift.up h
 clear h
 refine am ?_
 exact h'.down
theorem Refs_spec {m : Mem} {aw uw sv : V} {va vm : Nat → V} {H : HeapA} {a : Nat} {each : V} {T : Mem → Nat → Mem → Prop} (h : HpRd m aw uw sv va vm H) (ha : a + 1 + H.a a % 256 ≤ H.na) (hu : unOk (H.a a)) (hna : H.na < 1000000) (hc : each.isCell = true)
  (q0 : ∀ I, T I 0 (m ++ I))
  (hQ : ∀ I f M, T I f M → (∀ j y, I[j]? = some y → M[m.length + j]? = some y) ∧ Rd M aw 1 H.na (u64s H.a))
  (hG : ∀ I f M g, T I f M → T I f (M ++ g))
  (skip : ∀ I f M, f < H.a a % 256 → (unM (H.a a)).testBit f = false → T I f M → T I (f + 1) M)
  (step : ∀ I f M, f < H.a a % 256 → (unM (H.a a)).testBit f = true → T I f M → CV S each [.int .u64 (H.a (a + 1 + f) : Nat)] M (fun _ M' => T I (f + 1) M')) :
  C S n_heap_Refs [.agg (heapV H aw uw sv), .int .u64 (a : Nat), each] m (fun _ M' => ∃ I, T I (H.a a % 256) M') := by
 have A := h.a.ar
 have B := h.u.ar
 have D := h.s.s.ar
 have lt : a < H.na := by omega
 have wlt := PLift.up (h.wa _ lt)
 obtain ⟨w, ew⟩ : ∃ w, H.a a = w := ⟨_, rfl⟩
 have ew' := PLift.up ew
 rw [ew] at wlt ha hu
 have hu' := PLift.up hu
 have q0' := PLift.up q0
 have hQ' := PLift.up hQ
 have hG' := PLift.up hG
 have skip' := PLift.up skip
 have step' := PLift.up step
 clear q0 hQ hG skip step hu
 refine fn rfl ?_
 refine (head_Unpack_spec wlt.down).mono ?_
 rintro _ _ ⟨⟨_, rfl⟩ | ⟨hn, _⟩, ⟨g, rfl⟩⟩
 case inr => exact absurd hu'.down hn
 have hn48 : w % 256 ≤ 48 := hu'.down.2.1
 refine am ?_
 obtain ⟨o, eo⟩ : ∃ o : ObA, o = ⟨0, 0, a, w, false⟩ := ⟨_, rfl⟩
 have eV : [V.int .i64 0, .int .i64 0, .int .u64 (a : Nat), .int .i64 (w % 256 : Nat), .int .u64 (unM w : Nat), .bool false] = obV o := by rw [eo]; rfl
 rw [eV]
 obtain ⟨I, hI⟩ : ∃ I : Mem, I = .cells true [heapV H aw uw sv] :: .cells true [[each]] :: (g ++ .cells true [[.int .i64 (w % 256 : Nat), .int .u64 (unM w : Nat)]] :: .cells true [[aw, .int .i64 H.us.N, uw, sv, .nils]] :: .cells true [obV o] :: []) := ⟨_, rfl⟩
 have oa : o.addr = a := by rw [eo]
 have ow : o.w = w := by rw [eo]
 have i1 : I[1]? = some (.cells true [[each]]) := by rw [hI]; rfl
 have i2 : I[g.length + 3]? = some (.cells true [[aw, .int .i64 H.us.N, uw, sv, .nils]]) := by rw [hI]; exact byam
 have i3 : I[g.length + 4]? = some (.cells true [obV o]) := by rw [hI]; exact byam
 refine (refs_spec (P := m.length + (g.length + 3)) (o := o) (T := fun f M => T I f M) (R := fun _ => False) (na := H.na) (a := H.a) ?_ hna ?_ unM_lt rfl ?_ ?_ (fun f M g h => hG'.down I f M g h) ?_ ?_).mono ?_
 ·show o.addr + 1 + o.w % 256 ≤ H.na
  rw [oa, ow]; exact ha
 ·show o.w % 256 ≤ 48
  rw [ow]; exact hn48
 ·have := q0'.down I
  rw [hI] at this ⊢
  simpa only [List.append_assoc, List.cons_append, List.nil_append] using this
 ·intro f M hT
  obtain ⟨h1, h2⟩ := hQ'.down I f M hT
  refine ⟨?_, true, aw, .int .i64 H.us.N, uw, sv, .nils, h1 _ _ i2, h2⟩
  have := h1 _ _ i3
  simpa only [List.length_append, List.length_cons, List.length_nil] using this
 ·intro f M hf hb hT
  have hf : f < o.w % 256 := hf
  rw [ow] at hf hb
  exact skip'.down I f M (by rw [ew'.down]; exact hf) (by rw [ew'.down]; exact hb) hT
 ·intro f M hf hb hT
  have hf : f < o.w % 256 := hf
  rw [ow] at hf hb
  rw [oa]
  obtain ⟨h1, h2⟩ := hQ'.down I f M hT
  exact C.mono (Refs_1_spec (h1 _ _ i1) hc (step'.down I f M (by rw [ew'.down]; exact hf) (by rw [ew'.down]; exact hb) hT)) fun r M' h => .inl h
 ·rintro r M (⟨_, hT⟩ | ⟨_, hT⟩)
  ·have hT : T I (o.w % 256) M := hT
   rw [ow] at hT
   have hT' := PLift.up hT
   clear hT
   refine am ?_
   exact ⟨I, hT'.down⟩
  ·exact hT.elim
end Go.AM.G
set_option maxRecDepth 100000
namespace Go.AM.G
open Go Go.AM
theorem curV_map : ∀ l : List ObA, curV (l.map obV) = u64l (curs l)
 | [] => rfl
 | o :: l => by
  have ih := curV_map l
  show curV (obV o :: l.map obV) = u64l (if o.cur = true then o.addr :: curs l else curs l)
  cases h : o.cur with
  | true =>
   rw [if_pos rfl]
   show curV ([.int .i64 (o.sp : Nat), .int .i64 (o.slot : Nat), .int .u64 (o.addr : Nat), .int .i64 (o.w % 256 : Nat), .int .u64 (unM o.w : Nat), .bool o.cur] :: l.map obV) = _
   rw [h, curV, ih]; rfl
  | false =>
   rw [if_neg (by decide)]
   show curV ([.int .i64 (o.sp : Nat), .int .i64 (o.slot : Nat), .int .u64 (o.addr : Nat), .int .i64 (o.w % 256 : Nat), .int .u64 (unM o.w : Nat), .bool o.cur] :: l.map obV) = _
   rw [h, curV, ih]
   all_goals (intros; rename_i e; simp at e)
theorem Objects_spec {m : Mem} {aw uw sv : V} {va vm : Nat → V} {H : HeapA} (h : HpRd m aw uw sv va vm H) : C S n_heap_Objects [.agg (heapV H aw uw sv)] m (fun r m' => objR H m r m') := by
 obtain ⟨n, v, m1, e, hq⟩ := open_spec h
 have e : callN S.F S.X n n_heap_open [.agg (heapV H aw uw sv)] m = some (v, m1) := e
 have key : ∀ r m2, tObj (callN S.F S.X n) [.agg (heapV H aw uw sv)] m = some (r, m2) → objR H m r m2 → C S n_heap_Objects [.agg (heapV H aw uw sv)] m (fun r m' => objR H m r m') := fun r m2 e2 hr => ⟨n + 1, r, m2, e2, hr⟩
 have hiH : isHp [.agg (heapV H aw uw sv)] = true := by
  have A := h.a.ar.2.1; have B := h.u.ar.2.1; have D := h.s.s.ar.2.1
  simp only [isHp, heapV, A, B, D, Bool.and_true, Bool.and_eq_true]; exact ⟨trivial, rfl⟩
 rcases hq with ⟨hr, rfl, g, ov, rfl, hG⟩ | ⟨hr, rfl, hg⟩
 ·obtain ⟨l, el⟩ : ∃ l, obs H H.ns = l := ⟨_, rfl⟩
  have hol := obs_small hr.1
  rw [el] at hG hol
  have hS := Gw.sl (G := []) (A := m ++ [.cells true [heapV H aw uw sv], .cells true [[aw, .int .i64 H.us.N, uw, sv, ov]]]) hG.cast
  simp only [List.append_assoc, List.cons_append, List.nil_append, List.append_nil] at hS
  have hP : (m ++ .cells true [heapV H aw uw sv] :: .cells true [[aw, .int .i64 H.us.N, uw, sv, ov]] :: g)[m.length + 1]? = some (.cells true [[aw, .int .i64 H.us.N, uw, sv, ov]]) := byam
  have hall : (l.map obV).all isO = true := by
   rw [List.all_eq_true]
   intro x hx
   obtain ⟨o, _, rfl⟩ := List.mem_map.1 hx
   rfl
  have e1 : ∀ {y}, (match curV (l.map obV) with
     | [] => some (.tup [.nils, .int .i64 0], m ++ .cells true [heapV H aw uw sv] :: .cells true [[aw, .int .i64 H.us.N, uw, sv, ov]] :: g)
     | a :: r => some (.tup [.slice (m ++ .cells true [heapV H aw uw sv] :: .cells true [[aw, .int .i64 H.us.N, uw, sv, ov]] :: g).length 0 (r.length + 1) (r.length + 1) false 1, .int .i64 0], (m ++ .cells true [heapV H aw uw sv] :: .cells true [[aw, .int .i64 H.us.N, uw, sv, ov]] :: g) ++ [.cells true (a :: r)])) = some y → tObj (callN S.F S.X n) [.agg (heapV H aw uw sv)] m = some y := by
   intro y hy
   unfold tObj
   rw [if_pos hiH, e]
   simp only [hP, hS.1]
   rw [if_pos ⟨hall, by rw [List.length_map]; omega, hS.2⟩]
   exact hy
  rw [curV_map] at e1
  cases hc : u64l (curs l) with
  | nil =>
   rw [hc] at e1
   refine key _ _ (e1 rfl) (.inl ⟨hr, _, .nils, rfl, rfl, ?_⟩)
   rw [el, hc]; exact .inl ⟨rfl, rfl⟩
  | cons a r =>
   rw [hc] at e1
   refine key _ _ (e1 rfl) (.inl ⟨hr, .cells true [heapV H aw uw sv] :: .cells true [[aw, .int .i64 H.us.N, uw, sv, ov]] :: (g ++ [.cells true (a :: r)]), _, by simp, rfl, ?_⟩)
   rw [el, hc]
   refine .inr ⟨g.length + 2, by simp <;> omega, ?_⟩
   show (g ++ [Blk.cells true (a :: r)])[g.length]? = _
   simp
 ·refine key _ _ ?_ (.inr ⟨hr, rfl, hg⟩)
  unfold tObj
  rw [if_pos hiH, e]
  rfl
end Go.AM.G
