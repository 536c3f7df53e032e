/- law11.ModelTable, on the abstract machine. -/
import Derived.Test.YtkimcedmfnoeoaaGreatDoorHbQ
import Derived.Test.YtkimcedmfnoeoaaGreatDoorEpD
set_option linter.unusedVariables false
set_option linter.unusedSimpArgs false
set_option maxRecDepth 100000
namespace Go.Proofs.YtkimcedmfnoeoaaGreatDoor.HbF
open Go Go.AM Go.AM.G Go.RowKit
theorem slotOk.lay {l : List E.Slot} (h : ∀ s, s ∈ l → slotOk s) {k v : Int} (hk : 0 ≤ k ∧ k < 18446744073709551616) (hv : 0 ≤ v ∧ v < 18446744073709551616) : ∀ s, s ∈ E.layL l k v → slotOk s := by
  intro s hs
  unfold E.layL at hs
  rcases List.mem_or_eq_of_mem_set hs with hs | rfl
  · exact h s hs
  · exact ⟨by show (0 : Int) ≤ 1; omega, hk, hv⟩
theorem slotOk.fold : ∀ (r t : List E.Slot), (∀ s, s ∈ r → slotOk s) → (∀ s, s ∈ t → slotOk s) → ∀ s, s ∈ r.foldl (fun t s => if s.st = 1 then E.layL t s.key s.val else t) t → slotOk s
  | [], t, _, ht => ht
  | x :: r, t, hr, ht => by
    refine slotOk.fold r _ (fun s hs => hr s (List.mem_cons_of_mem _ hs)) ?_
    have hx := hr x (by simp)
    dsimp only
    split
    · exact slotOk.lay ht hx.2.1 hx.2.2
    · exact ht
theorem slotOk.put {l : List E.Slot} (h : ∀ s, s ∈ l → slotOk s) {k v : Int} (hk : 0 ≤ k ∧ k < 18446744073709551616) (hv : 0 ≤ v ∧ v < 18446744073709551616) : ∀ s, s ∈ (E.putL l k v).1 → slotOk s := by
  have hz : ∀ s, s ∈ E.anewL l → slotOk s := slotOk.fold l _ h fun s hs => by
    obtain ⟨_, rfl⟩ := List.mem_replicate.1 hs
    exact ⟨by decide, by decide, by decide⟩
  unfold E.putL
  repeat' split
  all_goals first
    | exact h
    | exact slotOk.lay h hk hv
    | exact slotOk.lay hz hk hv
    | (intro s hs; simp at hs)
theorem nxt_tab {a : Nat → Nat} {l : List E.Slot} (h : ∀ s, s ∈ l → slotOk s) (hv : E.validB l = true) {x b : Nat} : nxtM a (ephK l) (ephW l) x b ↔ fldTo a x b ∨ E.Has l x b := by
  unfold nxtM
  refine or_congr Iff.rfl ⟨?_, ?_⟩
  · rintro ⟨i, hi, h1, h2⟩
    have e1 : (E.allL l).1 = (E.srtL (E.used l)).map (·.key) := by unfold E.allL; rw [if_pos hv]
    have e2 : (E.allL l).2.1 = (E.srtL (E.used l)).map (·.val) := by unfold E.allL; rw [if_pos hv]
    have hi' : i < (E.srtL (E.used l)).length := by
      unfold ephK at hi
      rw [e1] at hi
      simpa using hi
    have hm := (E.srtL_perm (d := E.used l)).mem_iff.1 (List.getElem_mem hi')
    obtain ⟨m1, m2⟩ := List.mem_filter.1 hm
    have k1 := (h _ m1).2.1.1
    have k2 := (h _ m1).2.2.1
    have h1' : x = ((E.srtL (E.used l))[i]).key.toNat := by
      rw [← h1]
      unfold ephK nx
      rw [e1, List.map_map, List.getD_eq_getElem?_getD, List.getElem?_map, List.getElem?_eq_getElem hi']
      rfl
    have h2' : b = ((E.srtL (E.used l))[i]).val.toNat := by
      rw [← h2]
      unfold ephW nx
      rw [e2, List.map_map, List.getD_eq_getElem?_getD, List.getElem?_map, List.getElem?_eq_getElem hi']
      rfl
    exact E.has_iff.2 ⟨_, m1, by simpa using m2, by omega, by omega⟩
  · intro hh
    obtain ⟨s, hs, h1, h2, h3⟩ := E.has_iff.1 hh
    obtain ⟨i, hi, e1, e2⟩ := eph_used h hv hs h1
    exact ⟨i, hi, by omega, by omega⟩
abbrev eOk (s : E.Slot) : Prop := slotOk s
theorem ePut {l : List E.Slot} (h : ∀ s, s ∈ l → eOk s) {k v : Int} (hk : 0 ≤ k ∧ k < 18446744073709551616) (hv : 0 ≤ v ∧ v < 18446744073709551616) : ∀ s, s ∈ (E.putL l k v).1 → eOk s := slotOk.put h hk hv
end Go.Proofs.YtkimcedmfnoeoaaGreatDoor.HbF
namespace Go.AM.G
open Go Go.AM
open Go.Proofs.YtkimcedmfnoeoaaGreatDoor.HbF (eOk ePut eph_all eph_used ephK ephW nxt_tab)
theorem mReachR.gen {H : HeapA} {ok : Prop} {rs K W : List Nat} {m g : Mem} {r : V} (h : mReachR H ok rs K W m g r) : ∃ (v : V) (e : Int) (L : List Nat), r = .tup [v, .int .i64 e] ∧ v.isCell = true ∧ (e = 0 → H.right ∧ ok ∧ mOk (curs (obs H H.ns)) rs K W ∧ Gw m.length g v 1 (u64l L) ∧ L.length ≤ 2048 ∧ ∀ a, a ∈ L ↔ Rcb rs (nxtM H.a K W) a) := by
  rcases h with ⟨_, rfl⟩ | ⟨_, _, _, rfl⟩ | ⟨h1, h2, h3, v, L, rfl, h4, _, h5, h6⟩
  · exact ⟨.nils, 2, [], rfl, rfl, fun e => by omega⟩
  · exact ⟨.nils, 10, [], rfl, rfl, fun e => by omega⟩
  · exact ⟨v, 0, L, rfl, h4.cell, fun _ => ⟨h1, h2, h3, h4, h5, h6⟩⟩
theorem put_len {l : List E.Slot} {k v : Int} (h : l.length < 5864062014806) : (E.putL l k v).1.length < 5864062014806 := by
  have hs : E.sizeL (E.cnt 1 l) ≤ 128 := by
    unfold E.sizeL
    repeat' split
    all_goals omega
  have ha := (E.anew_cnt (l := l)).1
  unfold E.putL
  repeat' split
  all_goals first
    | exact h
    | (show (E.layL _ _ _).length < _
       unfold E.layL
       rw [List.length_set]
       omega)
    | (show ([] : List E.Slot).length < _
       decide)
theorem Rcb.imp {rs : List Nat} {n1 n2 : Nat → Nat → Prop} (hn : ∀ x b, n1 x b → n2 x b) {x : Nat} (h : Rcb rs n1 x) : Rcb rs n2 x := by
  induction h with
  | root h1 h2 => exact .root h1 h2
  | step _ h2 h3 ih => exact .step ih (hn _ _ h2) h3
theorem Rcb.tab {a : Nat → Nat} {l l' : List E.Slot} {rs : List Nat} {key : Nat} {nxt : Nat → Nat → Prop} (hn : ∀ x b, nxt x b ↔ fldTo a x b ∨ E.Has l x b) (hk : ∀ x b : Nat, x ≠ key → (E.Has l' x b ↔ E.Has l x b)) (h0 : ¬ Rcb rs nxt key) {x : Nat} (h : Rcb rs (fun x b => fldTo a x b ∨ E.Has l' x b) x) : Rcb rs nxt x := by
  induction h with
  | root h1 h2 => exact .root h1 h2
  | step _ h2 h3 ih =>
    refine .step ih ((hn _ _).2 ?_) h3
    rcases h2 with h2 | h2
    · exact .inl h2
    · exact .inr ((hk _ _ fun e => h0 (e ▸ ih)).1 h2)
theorem table_j0 {fr : Frame} {M : Mem} {v2 : V} {L2 : List Nat} {key val : Nat} (F : Has fr [(3, .int .u64 (key : Nat)), (4, .int .u64 (val : Nat)), (15, v2)]) (n2 : Nus M v2 L2) (hl : L2.length ≤ 2048) (h : key ∈ L2 → val ≠ 0 → val ∈ L2) : W S law11_ModelTable_j0 fr M (bodyQ [RV.t 10] fun r _ => r = V.bool true) := by
  have n2' := PLift.up n2
  have h' := PLift.up h
  clear n2 h
  refine into ?_
  refine (Has_spec n2'.down (by omega)).mono ?_
  rintro _ _ ⟨rfl, rfl⟩
  by_cases hk : key ∈ L2
  · rw [decide_eq_true hk]
    by_cases hv : val = 0
    · have c : ((val : Int) = 0) = True := eq_true (by omega)
      clear hv hk
      exact byam
    · have yes := decide_eq_true (h'.down hk hv)
      have c : ((val : Int) = 0) = False := eq_false (by omega)
      clear hv hk
      refine am ?_
      refine (Has_spec n2'.down (by omega)).mono ?_
      rintro _ _ ⟨rfl, rfl⟩
      rw [yes]
      exact byam
  · rw [decide_eq_false hk]
    clear hk
    exact byam
theorem ModelTable_spec {m : Mem} {aw uw sv tv rv : V} {va vm : Nat → V} {H : HeapA} {rs : List Nat} {s : List E.Slot} {key val : Nat} (h : HpRd m aw uw sv va vm H) (hrs : Nus m rv rs) (hrl : rs.length + 128 ≤ 17592186044416) (hs : Sl m tv 3 (E.encs s)) (hsl : s.length < 5864062014806) (hso : ∀ x, x ∈ s → eOk x) (hk : key < 18446744073709551616) (hv : val < 18446744073709551616) :
    C S n_law11_ModelTable [.agg (heapV H aw uw sv), rv, .agg [tv], .int .u64 (key : Nat), .int .u64 (val : Nat)] m (fun r _ => r = .bool true) := by
  have A := h.a.ar.2.1
  have B := h.u.ar.2.1
  have D := h.s.s.ar.2.1
  have A1 := hrs.ar.2.1
  have tc := hs.cell
  obtain ⟨hA, hKW, hKl⟩ := eph_all hs hsl hso
  have hA' := PLift.up hA
  have hs' := PLift.up hs
  have hrs' := PLift.up hrs
  have hso' := PLift.up hso
  clear hA hs hrs hso
  refine fn rfl ?_
  refine (lives_spec).mono ?_
  rintro _ _ ⟨rfl, rfl⟩
  refine am ?_
  refine (MReach_spec (rs := rs) h.app tc hA'.down.app hKW (by omega) hrs'.down.app (by omega)).mono ?_
  rintro _ _ ⟨g1, rfl, hr1⟩
  obtain ⟨v, e1, L, rfl, vc, hL⟩ := hr1.gen
  have c0 : CxM (m ++ .cells true [heapV H aw uw sv] :: .cells true [[tv]] :: g1) aw uw sv tv rv .nils va vm H (E.validB s = true) rs (ephK s) (ephW s) [] s m.length (m.length + 1) :=
    ⟨h.app, by rw [get_off0]; rfl, by rw [get_off]; rfl, .inl ⟨rfl, rfl⟩, hs'.down.app, hrs'.down.app, hA'.down.app⟩
  have hL1 : e1 = 0 → H.right ∧ E.validB s = true ∧ Nus (m ++ .cells true [heapV H aw uw sv] :: .cells true [[tv]] :: g1) v L ∧ L.length ≤ 2048 ∧ ∀ a, a ∈ L ↔ Rcb rs (nxtM H.a (ephK s) (ephW s)) a := fun e => by
    obtain ⟨a1, a2, _, a3, a4, a5⟩ := hL e
    refine ⟨a1, a2, ?_, a4, a5⟩
    have := Gw.sl (G := []) (A := m ++ [.cells true [heapV H aw uw sv], .cells true [[tv]]]) a3.cast
    refine Nus.of ?_
    simpa only [List.append_assoc, List.cons_append, List.nil_append, List.append_nil] using this
  have c0' := PLift.up c0
  have hL1' := PLift.up hL1
  clear hL hL1 c0 hr1
  simp only [List.append_assoc, List.cons_append, List.nil_append]
  obtain ⟨X, eX⟩ : ∃ X, m ++ .cells true [heapV H aw uw sv] :: .cells true [[tv]] :: g1 = X := ⟨_, rfl⟩
  rw [eX] at c0' hL1' ⊢
  clear eX
  have b3 := c0'.down.b3
  have b5 := c0'.down.b5
  refine am ?_
  refine (E.Put_spec (key : Int) (val : Int) c0'.down.s hsl).mono ?_
  rintro _ _ ⟨v', rfl, ⟨g2, rfl⟩, hF⟩
  have hs2 : Sl (X ++ g2) v' 3 (E.encs (E.putL s key val).1) := hF.1
  have v'c := hs2.cell
  obtain ⟨st, est⟩ : ∃ st, (E.putL s key val).2 = st := ⟨_, rfl⟩
  have est' := PLift.up est
  rw [est]
  have hs2' := PLift.up hs2
  clear hF hs2 b3 b5 est
  have b3 := c0'.down.b3
  refine am ?_
  have hso2 := ePut hso'.down (k := key) (v := val) ⟨by omega, by omega⟩ ⟨by omega, by omega⟩
  have hl2 : (E.putL s key val).1.length < 5864062014806 := put_len hsl
  obtain ⟨hA2, hKW2, hKl2⟩ := eph_all hs2'.down hl2 hso2
  refine (MReach_spec (rs := rs) (m := X ++ (g2 ++ [.cells true [[v']]])) c0'.down.app.h v'c (by have := hA2.app (g := [.cells true [[v']]]); simpa only [List.append_assoc] using this) hKW2 (by omega) c0'.down.app.r (by omega)).mono ?_
  rintro _ _ ⟨g3, rfl, hr2⟩
  obtain ⟨v2, e2, L2, rfl, v2c, hL2⟩ := hr2.gen
  have hL22 : e2 = 0 → E.validB (E.putL s key val).1 = true ∧ Nus (X ++ (g2 ++ (.cells true [[v']] :: g3))) v2 L2 ∧ L2.length ≤ 2048 ∧ ∀ a, a ∈ L2 ↔ Rcb rs (nxtM H.a (ephK (E.putL s key val).1) (ephW (E.putL s key val).1)) a := fun e => by
    obtain ⟨a1, a2, _, a3, a4, a5⟩ := hL2 e
    refine ⟨a2, ?_, a4, a5⟩
    have := Gw.sl (G := []) (A := X ++ (g2 ++ [.cells true [[v']]])) a3
    refine Nus.of ?_
    simpa only [List.append_assoc, List.cons_append, List.nil_append, List.append_nil] using this
  have hL2' := PLift.up hL22
  have hso2' := PLift.up hso2
  clear hL2 hL22 hr2 hso2 hA2 b3
  by_cases z1 : e1 = 0
  case neg =>
    have c1 := eq_false z1
    clear z1
    refine am ?_
    trivial
  subst z1
  by_cases z2 : st = 0
  case neg =>
    have c1 := eq_false z2
    clear z2
    refine am ?_
    trivial
  subst z2
  by_cases z3 : e2 = 0
  case neg =>
    have c1 := eq_false z3
    clear z3
    refine am ?_
    trivial
  subst z3
  obtain ⟨hR, hval, n1, l1, m1⟩ := hL1'.down rfl
  obtain ⟨hval2, n2, l2, m2⟩ := hL2'.down rfl
  have hk0 : (key : Int) ≠ 0 := fun e => by
    have := est'.down
    unfold E.putL at this
    rw [if_pos hval, if_pos e] at this
    cases this
  have hHas : ∀ k' v', E.Has (E.putL s key val).1 k' v' ↔ if k' = key then v' = val else E.Has s k' v' := by
    rcases E.putL_valid (v := (val : Int)) hval hk0 with ⟨_, _, _, h4, _⟩ | ⟨h1, _⟩
    · exact h4
    · rw [est'.down] at h1; cases h1
  have p1 := fun x b => nxt_tab (a := H.a) hso'.down hval (x := x) (b := b)
  have p2 := fun x b => nxt_tab (a := H.a) hso2'.down hval2 (x := x) (b := b)
  have F1 : key ∉ L → ∀ a, a ∈ L2 → a ∈ L := fun hn a ha => (m1 a).2 (Rcb.tab (l := s) (l' := (E.putL s key val).1) (key := key) p1 (fun x b hx => by
    rw [hHas, if_neg fun e => hx (by omega)]) (fun hr => hn ((m1 key).2 hr)) (Rcb.imp (fun x b => (p2 x b).1) ((m2 a).1 ha)))
  have F2 : key ∈ L2 → val ≠ 0 → val ∈ L2 := fun hk1 hv1 => (m2 val).2 (.step ((m2 key).1 hk1) ((p2 key val).2 (.inr ((hHas _ _).2 (by rw [if_pos rfl])))) hv1)
  have F1' := PLift.up F1
  have F2' := PLift.up F2
  have n1' := PLift.up n1
  have n2' := PLift.up n2
  have b5 := c0'.down.b5
  clear F1 F2 n1 n2 m1 m2 hk0 hHas p1 p2 hR hval hval2 hL1' hL2' hA' est' A1
  refine am ?_
  refine (Has_spec n1'.down.app (by omega)).mono ?_
  rintro _ _ ⟨rfl, rfl⟩
  by_cases hk1 : key ∈ L
  · rw [decide_eq_true hk1]
    clear hk1
    refine am ?_
    exact table_j0 byam n2'.down l2 F2'.down
  · rw [decide_eq_false hk1]
    have hk1' := PLift.up hk1
    clear hk1
    refine am ?_
    refine (E.Get_spec (key : Int) c0'.down.s.app (by omega)).mono ?_
    rintro _ _ ⟨rfl, ⟨g4, rfl⟩⟩
    obtain ⟨w, ew⟩ : ∃ w, E.getL s key = w := ⟨_, rfl⟩
    rw [ew]
    obtain ⟨w1, w2⟩ := w
    have n2x := n2'.down.app (g := g4)
    simp only [List.append_assoc, List.cons_append] at n2x ⊢
    have n2x' := PLift.up n2x
    have ar := n2x.ar
    clear n2x ew
    by_cases hw : w2 = 0
    · have c := eq_true hw
      clear hw
      refine am ?_
      exact table_j0 byam n2x'.down l2 F2'.down
    have c := eq_false hw
    clear hw
    refine am ?_
    clear ar
    refine range (α := Unit) L2.length (fun _ => [(3, .int .u64 (key : Nat)), (4, .int .u64 (val : Nat)), (11, v), (15, v2), (66, v2)]) (fun _ _ M => M = X ++ (g2 ++ .cells true [[v']] :: (g3 ++ g4))) () rfl ?_ ?_
    · rintro j _ fr _ hj F rfl
      have ar := n2x'.down.ar
      have yes := decide_eq_true (F1'.down hk1'.down _ (nx_mem hj))
      refine am ?_
      refine (Has_spec n1'.down.app (by omega)).mono ?_
      rintro _ _ ⟨rfl, rfl⟩
      rw [yes]
      refine am ?_
      exact ⟨(), byam, rfl⟩
    rintro _ fr _ F rfl
    exact table_j0 byam n2x'.down l2 F2'.down
end Go.AM.G
namespace Go.Proofs.YtkimcedmfnoeoaaGreatDoor.HbF
open Go Go.AM Go.AM.G Go.RowKit
theorem modelTable_law {m : Mem} {u v t : V} {H : HeapA} {l : List Nat} {s : List E.Slot} {k w : Int} (h : HpIn m u H) (hr : NuIn m v l) (hl : l.length ≤ 17592186043904) (ht : Sl m t 3 (E.encs s)) (hs : s.length < 5864062014806 ∧ ∀ x ∈ s, slotOk x) (hk : (Lit.int .u64 k).wf = true) (hw : (Lit.int .u64 w).wf = true) : C S n_law11_ModelTable [u, v, .agg [t], .int .u64 k, .int .u64 w] m (fun r _ => r = .bool true) := by
  obtain ⟨aw, uw, sv, va, vm, rfl, h⟩ := h
  obtain ⟨a, rfl⟩ : ∃ a : Nat, k = a := ⟨k.toNat, by simp [Lit.wf, IntKind.min, IntKind.max, IntKind.signed, IntKind.bits] at hk; omega⟩
  obtain ⟨b, rfl⟩ : ∃ b : Nat, w = b := ⟨w.toNat, by simp [Lit.wf, IntKind.min, IntKind.max, IntKind.signed, IntKind.bits] at hw; omega⟩
  exact ModelTable_spec h hr (by omega) ht hs.1 hs.2 (by simp [Lit.wf, IntKind.min, IntKind.max, IntKind.signed, IntKind.bits] at hk; omega) (by simp [Lit.wf, IntKind.min, IntKind.max, IntKind.signed, IntKind.bits] at hw; omega)
end Go.Proofs.YtkimcedmfnoeoaaGreatDoor.HbF
