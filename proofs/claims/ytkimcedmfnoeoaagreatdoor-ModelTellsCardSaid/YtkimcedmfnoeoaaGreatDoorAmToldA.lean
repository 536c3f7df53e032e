/- Told functions: a closed one, at whatever memory. -/
import Derived.Test.YtkimcedmfnoeoaaGreatDoorAmDraw
import Derived.Shelf.SlSortCmp.WholeK
import Derived.Below
set_option linter.unusedVariables false
set_option linter.unusedSimpArgs false
namespace Go.AM
open Go
variable [HasLay]
theorem closed_ok' {P : Program} {f : FuncId} {args : List V} {v : V} {m1 : Mem} (h : CallOk P f args [] v m1) (ha : ∀ φ cargs, Rs φ args cargs → Rs (fun _ => none) args cargs) (hv : ∀ φ φ' cv, R φ v cv → R φ' v cv) (m : Mem) : CallOk P f args m v m := by
 obtain ⟨he, h⟩ := h
 refine ⟨he, fun φ w cargs hst hr => ?_⟩
 have h0 : St (fun _ => none) [] w := ⟨⟨fun _ _ => rfl, fun b own els hb => by simp at hb, fun b els b' own' els' p p' hb => by simp at hb, fun b es hb => by simp at hb, fun b es b' es' p p' hb => by simp at hb⟩, hst.lay.nil⟩
 refine (h _ w cargs h0 (ha _ _ hr)).mono ?_
 rintro e w' ⟨φ', cv, rfl, hs, hc⟩
 have hfr : ∀ B, B < w.heap.size → w'.heap[B]? = w.heap[B]? := fun B hB => (hs.frame B hB (by rintro (⟨b, els, p, hb, _⟩ | ⟨b, els, p, hb, _⟩) <;> simp at hb)).1
 obtain ⟨M1, M2, _⟩ := hst.maps (w' := w') (Ext.refl _) (fun _ _ h => h) (fun B _ _ g => (hfr B (Array.getElem?_eq_some_iff.1 g).1).trans g)
 refine ⟨φ, _, rfl, StpE0.to hst ⟨Ext.refl _, ⟨hst.fresh, fun b own els hb => ?_, hst.excl, M1, M2⟩, Nat.le_refl _, hs.size, hs.os, hs.tape, hs.output, fun B hB hO => ⟨hfr B hB, hO⟩, fun _ _ _ h => h⟩, hv _ _ _ hc⟩
 obtain ⟨p, hp, hr⟩ := hst.blk b own els hb
 exact ⟨p, hp, hr.world (Ext.refl _) (hfr _ hr.lt)⟩
theorem closed_ok {P : Program} {f : FuncId} {m1 : Mem} (h : CallOk P f [] [] (.bool true) m1) (m : Mem) : CallOk P f [] m (.bool true) m := closed_ok' h (fun _ _ h => h) (fun _ _ _ h => by simp only [R] at h ⊢; exact h) m
end Go.AM
namespace Go.AM
open Go
section
open Go.Sort
theorem flat_get {α : Type} [Inhabited α] (enc : α → List Value) (k : Nat) (hk : ∀ x, (enc x).length = k) : ∀ (L : List α) (t : Nat), t < L.length * k → ((L.map enc).flatten)[t]? = some ((enc L[t / k]!)[t % k]!)
 | [], t, h => by simp at h
 | a :: L, t, h => by
  have k0 : 0 < k := by
   rcases Nat.eq_zero_or_pos k with e | e
   ·subst e; simp at h
   ·exact e
  simp only [List.map_cons, List.flatten_cons]
  by_cases ht : t < k
  ·rw [List.getElem?_append_left (by rw [hk]; exact ht), Nat.div_eq_of_lt ht, Nat.mod_eq_of_lt ht]
   simp [hk, ht]
  ·simp only [List.length_cons, Nat.add_mul, Nat.one_mul] at h
   rw [List.getElem?_append_right (by rw [hk]; omega), hk, flat_get enc k hk L (t - k) (by omega)]
   rw [show t / k = (t - k) / k + 1 from Nat.div_eq_sub_div k0 (by omega), show t % k = (t - k) % k from Nat.mod_eq_sub_mod (by omega)]
   simp
end
section
open Go.Sort
theorem putCells_list {a : Nat} {F : Array Value} {c : Array Value} {x A r : List Value} (hc : c.toList = x ++ (A ++ r)) (hx : x.length = a) (hF : F.size = A.length) : (putCells id a F c).toList = x ++ (F.toList ++ r) := by
 apply List.ext_getElem?
 intro j
 have h0 : (putCells id a F c).toList[j]? = (c.toList[j]?).map fun x => if a ≤ j ∧ j < a + F.size then F[j - a]! else x := by
  unfold putCells
  simp [Array.getElem?_toList, Array.getElem?_mapIdx]
 rw [h0, hc]
 by_cases h1 : j < a
 ·rw [List.getElem?_append_left (by omega), List.getElem?_append_left (by omega)]
  simp [show ¬ a ≤ j by omega]
 ·have e1 : ∀ y : List Value, (x ++ y)[j]? = y[j - a]? := fun y => by rw [List.getElem?_append_right (by omega), hx]
  rw [e1, e1]
  by_cases h2 : j < a + F.size
  ·have e2 : (A ++ r)[j - a]? = A[j - a]? := List.getElem?_append_left (by omega)
   have e3 : (F.toList ++ r)[j - a]? = F.toList[j - a]? := List.getElem?_append_left (by simp; omega)
   rw [e2, e3, List.getElem?_eq_getElem (show j - a < A.length by omega)]
   simp only [Option.map_some]
   rw [if_pos ⟨by omega, h2⟩, getElem!_pos F (j - a) (by omega)]
   simp [show j - a < F.size by omega]
  ·have e2 : (A ++ r)[j - a]? = r[j - a - A.length]? := List.getElem?_append_right (by omega)
   have e3 : (F.toList ++ r)[j - a]? = r[j - a - F.toList.length]? := List.getElem?_append_right (by simp; omega)
   rw [e2, e3, ← hF]
   simp [h2]
end
section
open Go.Sort
theorem Rs_flat {α : Type} {enc : α → List V} {encV : α → List Value} {φ : Phi} (hR : ∀ φ x cs, Rs φ (enc x) cs ↔ cs = encV x) : ∀ {L : List α} {A : List Value}, Rs φ (L.map enc).flatten A ↔ A = (L.map encV).flatten
 | [], A => by simp [Rs]
 | x :: L, A => by
  simp only [List.map_cons, List.flatten_cons]
  constructor
  ·intro h
   obtain ⟨a, b, rfl, h1, h2⟩ := h.split
   rw [(hR _ _ _).1 h1, (Rs_flat hR).1 h2]
  ·rintro rfl
   exact Rs.append ((hR _ _ _).2 rfl) ((Rs_flat hR).2 rfl)
end
section
open Go.Sort
theorem set_cells {m : Mem} {b i : Nat} {E L : List (List V)} {own o : Bool} {els : List (List V)} (hb : m[b]? = some (.cells own els)) (h : (m.set b (.cells own E))[i]? = some (.cells o L)) : ∃ L0, m[i]? = some (.cells o L0) := by
 have hlt := (List.getElem?_eq_some_iff.1 hb).1
 by_cases hi : i = b
 ·subst hi
  rw [List.getElem?_set_self hlt] at h
  cases h
  exact ⟨_, hb⟩
 ·rw [List.getElem?_set_ne (Ne.symm hi)] at h
  exact ⟨_, h⟩
end
section
open Go.Sort
theorem flatK_list {α : Type} [Inhabited α] (enc : α → List Value) (k : Nat) (hk : ∀ x, (enc x).length = k) (d : Array α) : (flatK enc k d).toList = (d.toList.map enc).flatten := by
 have hlen : (d.toList.map enc).flatten.length = d.size * k := by
  obtain ⟨l⟩ := d
  simp only [List.size_toArray]
  induction l with
  | nil => simp
  | cons a l ih => simp [hk, ih, Nat.add_mul, Nat.add_comm]
 apply List.ext_getElem?
 intro t
 by_cases ht : t < d.size * k
 ·rw [flat_get enc k hk _ _ (by simpa using ht), List.getElem?_eq_getElem (by simpa using ht)]
  have := get_flatK enc k d t ht
  rw [getElem!_pos _ t (by simpa using ht)] at this
  rw [Array.getElem_toList, this]
  congr 3
  rw [Array.getElem!_eq_getD, Array.getD_eq_getD_getElem?]
  simp
 ·rw [List.getElem?_eq_none (by simpa using ht), List.getElem?_eq_none (by omega)]
end
variable [HasLay]
open Go.Sort
theorem sort_ok {P : Program} {α : Type} [Inhabited α] {f : FuncId} {g : Nat} (hE : Enterable P f) (enc : α → List V) (encV : α → List Value) (k : Nat) (hk : ∀ x, (encV x).length = k) (hR : ∀ φ x cs, Rs φ (enc x) cs ↔ cs = encV x) (hcell : ∀ x, ∀ v ∈ enc x, v.isCell = true) (srt : Array α → Array α) (hsz : ∀ d, (srt d).size = d.size)
  (hsort : ∀ (blk off cap : Nat) (d : Array α) (w : World), HoldsK encV k w blk off d → blk < w.heap.size → d.size < 4611686018427387904 → Calls P f #[.slice (some ⟨blk, off, none⟩) d.size cap, .func (.func g) #[] #[]] w fun e w' => e = .returned (.tuple #[]) ∧ ∃ n os, w' = Go.Proofs.sortWorldK encV k w blk off n (srt d) os)
  {m : Mem} {b cap : Nat} {ex : Bool} {els : List (List V)} {d : Array α} (hb : m[b]? = some (.cells true els)) (hd : els.take d.size = d.toList.map enc) (hlt : d.size < 4611686018427387904) :
  CallOk P f [.slice b 0 d.size cap ex k, .fn g [] []] m (.tup []) (m.set b (.cells true ((srt d).toList.map enc ++ els.drop d.size))) := by
 refine ⟨hE, fun φ w cargs hst hr => ?_⟩
 simp only [Rs, R] at hr
 obtain ⟨c1, r1, rfl, ⟨p, a, cap', hp, hz, rfl, hcc, hex, hmx, hlc, ha, hsz'⟩, c2, r2, rfl, ⟨fs, cs, rfl, rfl, rfl⟩, rfl⟩ := hr
 obtain ⟨p', hp', hbr⟩ := hst.blk b true els hb
 rw [hp] at hp'
 cases hp'
 obtain ⟨c, e, fr, x, a', y, h1, h2, h3, h4, h5, h6⟩ := hbr.lay
 have hels : els.flatten = (d.toList.map enc).flatten ++ (els.drop d.size).flatten := by rw [← hd, ← List.flatten_append, List.take_append_drop]
 rw [hels] at h6
 obtain ⟨A1, A2, rfl, g1, g2⟩ := h6.split
 have hA1 := (Rs_flat hR).1 g1
 have hfl : (flatK encV k d).toList = A1 := by rw [flatK_list encV k hk, hA1]
 have hl1 : A1.length = d.size * k := by rw [← hfl]; simp
 have hab : d.size = 0 ∨ a = p.base := by rcases ha with h | h <;> omega
 have hH : HoldsK encV k w p.blk a d := by
  intro j hj
  rw [size_flatK] at hj
  have hab : a = p.base := by
   rcases hab with h | h
   ·rw [h] at hj; omega
   ·exact h
  refine ⟨?_, ?_⟩
  ·unfold World.cell?
   simp only [h1, Option.isSome_none, Bool.false_eq_true, if_false, id]
   rw [← Array.getElem?_toList, h4, List.getElem?_append_right (by omega), List.append_assoc, List.getElem?_append_left (by omega), ← hfl]
   have : a + j - x.length = j := by omega
   rw [this, getElem!_pos _ j (by simpa using hj)]
   simp [hj]
  ·unfold World.frozen?
   simp only [h1, h3 rfl]
   simp
 refine (hsort p.blk a cap' d w hH hbr.lt hlt).mono ?_
 rintro _ _ ⟨rfl, n, os, rfl⟩
 have hml : ((m.set b (.cells true ((srt d).toList.map enc ++ els.drop d.size)))).length = m.length := List.length_set
 have hheap : ∀ B, B < w.heap.size → (Go.Proofs.sortWorldK encV k w p.blk a n (srt d) os).heap[B]? = if B = p.blk then some (.cells (putCells id a (flatK encV k (srt d)) c) e fr) else w.heap[B]? := by
  intro B hB
  show ((w.heap.modify p.blk (onCells (putCells id a (flatK encV k (srt d))))) ++ os)[B]? = _
  rw [Array.getElem?_append_left (by simpa using hB), Array.getElem?_modify]
  by_cases hBp : B = p.blk
  ·subst hBp
   simp [h1, onCells]
  ·rw [if_neg hBp, if_neg (Ne.symm hBp)]
 obtain ⟨M1, M2, M3⟩ := hst.maps (w' := Go.Proofs.sortWorldK encV k w p.blk a n (srt d) os) (m' := m.set b (.cells true ((srt d).toList.map enc ++ els.drop d.size))) (Ext.refl _) (fun b' es hb' => by
  by_cases hbb : b' = b
  ·subst hbb; rw [List.getElem?_set_self (List.getElem?_eq_some_iff.1 hb).1] at hb'; cases hb'
  ·rwa [List.getElem?_set_ne (Ne.symm hbb)] at hb') (fun B ents clock g => by
  rw [hheap B (Array.getElem?_eq_some_iff.1 g).1, if_neg]
  ·exact g
  ·rintro rfl
   rw [h1] at g; cases g)
 have hown : ∀ B, Owned φ (m.set b (.cells true ((srt d).toList.map enc ++ els.drop d.size))) B → Owned φ m B := by
  rintro B (⟨b', els', p', h1', h2', h3'⟩ | hM)
  ·obtain ⟨L0, hL⟩ := set_cells hb h1'
   exact .inl ⟨b', L0, p', hL, h2', h3'⟩
  ·exact .inr (M3 _ hM)
 have hwf := hbr.wf
 refine ⟨φ, _, rfl, StpE0.to hst ⟨Ext.refl _, ⟨fun b' hb' => hst.fresh b' (by rw [hml] at hb'; exact hb'), fun b' own' els' hb' => ?_, ?_, M1, M2⟩, by rw [hml]; exact Nat.le_refl _, ?_, rfl, rfl, rfl, ?_, fun _ _ _ h => h⟩, by simp [R, Rs]⟩
 ·by_cases hbb : b' = b
  ·subst hbb
   rw [List.getElem?_set_self (List.getElem?_eq_some_iff.1 hb).1] at hb'
   cases hb'
   refine ⟨p, hp, ?_, ?_⟩
   ·intro el hel
    rcases List.mem_append.1 hel with h | h
    ·obtain ⟨s, _, rfl⟩ := List.mem_map.1 h
     refine ⟨?_, hcell s⟩
     have := ((hR φ s (encV s)).2 rfl).len
     rw [hz, ← this, hk]
    ·exact hwf el (List.mem_of_mem_drop h)
   ·refine ⟨putCells id a (flatK encV k (srt d)) c, e, fr, x, (flatK encV k (srt d)).toList ++ A2, y, ?_, ?_, h3, ?_, h5, ?_⟩
    ·rw [hheap _ hbr.lt, if_pos rfl]
    ·rw [← h2]; simp [putCells]
    ·have hF : (flatK encV k (srt d)).size = A1.length := by rw [size_flatK, hsz, hl1]
     rcases hab with h0 | h0
     ·have e1 : A1 = [] := List.length_eq_zero_iff.1 (by rw [hl1, h0]; simp)
      have e2 : (flatK encV k (srt d)) = #[] := Array.eq_empty_of_size_eq_zero (by rw [hF, e1]; rfl)
      have e3 : putCells id a (flatK encV k (srt d)) c = c := by
       rw [e2]
       unfold putCells
       apply Array.ext
       ·simp
       ·intro i _ _
        simp
        intro h1 h2
        omega
      rw [e3, h4, e1, e2]
     ·rw [putCells_list (x := x) (A := A1) (r := A2 ++ y) (by rw [h4, List.append_assoc]) (by omega) hF, List.append_assoc]
    ·rw [List.flatten_append]
     refine Rs.append ?_ g2
     exact (Rs_flat hR).2 (flatK_list encV k hk (srt d))
  ·rw [List.getElem?_set_ne (Ne.symm hbb)] at hb'
   obtain ⟨p', hp', hr'⟩ := hst.blk b' own' els' hb'
   refine ⟨p', hp', hr'.world (Ext.refl _) ?_⟩
   rw [hheap _ hr'.lt, if_neg]
   intro ee
   exact hst.excl b els b' own' els' p p' hb hb' (Ne.symm hbb) hp hp' ee.symm
 ·intro b1 els1 b2 own2 els2 p1 p2 q1 q2
  obtain ⟨L1, k1⟩ := set_cells hb q1
  obtain ⟨L2, k2⟩ := set_cells hb q2
  exact hst.excl b1 L1 b2 own2 L2 p1 p2 k1 k2
 ·show w.heap.size ≤ ((w.heap.modify p.blk (onCells (putCells id a (flatK encV k (srt d))))) ++ os).size
  simp
 ·intro B hB hO
  refine ⟨?_, fun h => hO (hown B h)⟩
  rw [hheap B hB, if_neg]
  rintro rfl
  exact hO (.inl ⟨b, els, p, hb, hp, rfl⟩)
end Go.AM
namespace Go.AM
open Go
variable [HasLay]
open Go.Sort
end Go.AM
namespace Go.AM
open Go Go.RowKit
variable [HasLay]
theorem Stp.below {φ : Phi} {m : Mem} {w w' : World} (h : St φ m w) (hb : Below w.heap.size w w') : Stp φ m w φ m w' := by
 obtain ⟨M1, M2, _⟩ := h.maps (w' := w') (Ext.refl _) (fun _ _ h => h) (fun B _ _ g => (hb.block B (Array.getElem?_eq_some_iff.1 g).1).trans g)
 refine StpE0.to h ⟨Ext.refl _, ⟨h.fresh, fun b own els hb' => ?_, h.excl, M1, M2⟩, Nat.le_refl _, hb.size, hb.os, hb.tape, hb.output, fun B hB hO => ⟨hb.block B hB, hO⟩, fun _ _ _ h => h⟩
 obtain ⟨p, hp, hr⟩ := h.blk b own els hb'
 exact ⟨p, hp, hr.world (Ext.refl _) (hb.block _ hr.lt)⟩
theorem Stp.behind {φ : Phi} {m : Mem} {w w' : World} (h : St φ m w) (hbl : Below w.heap.size w w') {els : List (List V)} {z : Nat} (hwf : Wf z els) {g : Nat} {c : Array Value} {e : TypeId} {a y : List Value} (hg : w.heap.size ≤ g)
  (hw : w'.heap[g]? = some (.cells c e (0, 0))) (hc : c.toList = a ++ y) (ha : Rs φ els.flatten a) :
  Stp φ m w (φ.set m.length ⟨g, 0, z, c.size⟩) (m ++ [.cells true els]) w' := by
 have hn := h.fresh m.length (Nat.le_refl _)
 have he := Phi.set_ext ⟨g, 0, z, c.size⟩ hn
 have hold : ∀ B, B < w.heap.size → w'.heap[B]? = w.heap[B]? := hbl.block
 have hlt : ∀ {b own els p}, m[b]? = some (.cells own els) → φ b = some p → p.blk < w.heap.size := by
  intro b own els p hb hp
  obtain ⟨q, hq, hr⟩ := h.blk b own els hb
  rw [hp] at hq; cases hq
  exact hr.lt
 obtain ⟨M1, M2, M3⟩ := h.maps (w' := w') (m' := m ++ [.cells true els]) he (fun b es hb => by
  rcases mem_push hb with ⟨_, hb⟩ | ⟨_, hx⟩
  ·exact hb
  ·cases hx) (fun B _ _ g => (hold B (Array.getElem?_eq_some_iff.1 g).1).trans g)
 refine StpE0.to h ⟨he, ⟨fun b hb => ?_, fun b own els' hb => ?_, fun b els1 b' own' els2 p p' hb hb' hne hp hp' => ?_, M1, M2⟩, by simp, hbl.size, hbl.os, hbl.tape, hbl.output, fun B hB hO => ⟨hold B hB, ?_⟩, fun b hb _ hnn => by rw [Phi.set_other _ _ (by omega)]; exact hnn⟩
 ·simp at hb
  rw [Phi.set_other _ _ (by omega)]
  exact h.fresh b (by omega)
 ·rcases mem_push hb with ⟨hlt', hb⟩ | ⟨rfl, hx⟩
  ·obtain ⟨p, hp, hr⟩ := h.blk b own els' hb
   exact ⟨p, he _ _ hp, hr.world he (hold _ hr.lt)⟩
  ·cases hx
   exact ⟨_, Phi.set_same _ _ _, hwf, c, e, (0, 0), [], a, y, hw, rfl, fun _ => rfl, by simpa using hc, rfl, ha.ext he⟩
 ·rcases mem_push hb with ⟨hl1, hb⟩ | ⟨e1, hx⟩ <;> rcases mem_push hb' with ⟨hl2, hb'⟩ | ⟨e2, hx'⟩
  ·rw [Phi.set_other _ _ (by omega)] at hp hp'
   exact h.excl b els1 b' own' els2 p p' hb hb' hne hp hp'
  ·rw [Phi.set_other _ _ (by omega)] at hp
   subst e2; rw [Phi.set_same] at hp'; cases hp'
   have := hlt hb hp
   simp; omega
  ·rw [Phi.set_other _ _ (by omega)] at hp'
   subst e1; rw [Phi.set_same] at hp; cases hp
   have := hlt hb' hp'
   simp; omega
  ·omega
 ·rintro (⟨b, els', p, hb, hp, rfl⟩ | hM)
  ·rcases mem_push hb with ⟨hl, hb⟩ | ⟨rfl, hx⟩
   ·rw [Phi.set_other _ _ (by omega)] at hp
    exact hO (.inl ⟨b, els', p, hb, hp, rfl⟩)
   ·rw [Phi.set_same] at hp; cases hp
    exact absurd hB (Nat.not_lt.2 hg)
  ·exact hO (.inr (M3 _ hM))
end Go.AM
