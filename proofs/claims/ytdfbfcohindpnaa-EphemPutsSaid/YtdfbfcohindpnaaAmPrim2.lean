/- Loads, stores, elements. -/
import Derived.Test.YtdfbfcohindpnaaAmPrim
set_option linter.unusedVariables false
set_option linter.unusedSimpArgs false
namespace Go.AM
open Go

theorem flat_len {z : Nat} : ∀ {l : List (List V)}, (∀ el ∈ l, el.length = z) → l.flatten.length = l.length * z
  | [], _ => by simp
  | e :: l, h => by
    simp [flat_len (l := l) (fun el hel => h el (by simp [hel])), h e (by simp), Nat.add_mul]; omega
theorem Wf.len {z : Nat} {l : List (List V)} (h : Wf z l) : l.flatten.length = l.length * z := flat_len fun el hel => (h el hel).1
theorem Wf.take {z : Nat} {l : List (List V)} (h : Wf z l) (n : Nat) : Wf z (l.take n) := fun el hel => h el (List.mem_of_mem_take hel)
theorem Wf.drop {z : Nat} {l : List (List V)} (h : Wf z l) (n : Nat) : Wf z (l.drop n) := fun el hel => h el (List.mem_of_mem_drop hel)
theorem Wf.append {z : Nat} {l k : List (List V)} (h : Wf z l) (h' : Wf z k) : Wf z (l ++ k) := fun el hel => (List.mem_append.1 hel).elim (h el) (h' el)
theorem Wf.cells {z : Nat} {l : List (List V)} (h : Wf z l) : ∀ v ∈ l.flatten, v.isCell = true := fun v hv => by
  obtain ⟨el, hel, hv⟩ := List.mem_flatten.1 hv
  exact (h el hel).2 v hv

theorem BR.cut {φ : Phi} {w : World} {p : PL} {own : Bool} {els : List (List V)} (h : BR φ w p own els) {i n : Nat} (hin : i + n ≤ els.length) :
    ∃ (c : Array Value) (e : TypeId) (fr : Nat × Nat) (u b r y : List Value), w.heap[p.blk]? = some (.cells c e fr) ∧ c.size = p.size ∧ (own = true → fr = (0, 0)) ∧
      c.toList = u ++ (b ++ r) ∧ u.length = p.base + i * p.esz ∧ b.length = n * p.esz ∧ Rs φ ((els.drop i).take n).flatten b ∧
      (∃ x a1 a3, u = x ++ a1 ∧ r = a3 ++ y ∧ x.length = p.base ∧ Rs φ (els.take i).flatten a1 ∧ Rs φ (els.drop (i + n)).flatten a3) := by
  obtain ⟨c, e, fr, x, a, y, g1, g2, g3, g4, g5, g6⟩ := h.lay
  have hsp : els.flatten = (els.take i).flatten ++ (((els.drop i).take n).flatten ++ (els.drop (i + n)).flatten) := by
    rw [← List.flatten_append, ← List.flatten_append]
    congr 1
    rw [← List.drop_drop, List.take_append_drop, List.take_append_drop]
  rw [hsp] at g6
  obtain ⟨a1, a23, rfl, k1, k23⟩ := g6.split
  obtain ⟨a2, a3, rfl, k2, k3⟩ := k23.split
  refine ⟨c, e, fr, x ++ a1, a2, a3 ++ y, y, g1, g2, g3, by simp [g4], ?_, ?_, k2, x, a1, a3, rfl, rfl, g5, k1, k3⟩
  · simp only [List.length_append, g5, k1.len]
    rw [(h.wf.take i).len, List.length_take, Nat.min_eq_left (by omega)]
  · rw [k2.len, ((h.wf.drop i).take n).len, List.length_take, List.length_drop, Nat.min_eq_left (by omega)]
theorem cell_at {w : World} {B : Nat} {c : Array Value} {e : TypeId} {fr : Nat × Nat} (hB : w.heap[B]? = some (.cells c e fr)) {u b r : List Value} (hc : c.toList = u ++ (b ++ r)) {j : Nat} {x : Value} (hx : b[j]? = some x) :
    w.cell? ⟨B, u.length + j, none⟩ = some x := by
  have hj : j < b.length := (List.getElem?_eq_some_iff.1 hx).1
  simp only [World.cell?, hB]
  simp
  rw [← Array.getElem?_toList, hc, List.getElem?_append_right (by omega), Nat.add_sub_cancel_left, List.getElem?_append_left hj]
  exact hx
theorem addr_add (B off j : Nat) : (⟨B, off, none⟩ : Addr).add j = ⟨B, off + j, none⟩ := by
  unfold Addr.add; split <;> simp_all

theorem take_one {els : List (List V)} {i : Nat} {el : List V} (h : els[i]? = some el) : ((els.drop i).take 1) = [el] := by
  have hi : i < els.length := (List.getElem?_eq_some_iff.1 h).1
  rw [List.drop_eq_getElem_cons hi]
  have : els[i] = el := (List.getElem?_eq_some_iff.1 h).2
  simp [this]

section
variable {P : Program} {N : Nat} {φ : Phi} {fr : Frame} {m : Mem} {A : Act} {w : World} {o : Oper} {ao : AOp} {v : V} {m' : Mem}

def PartAt (φ : Phi) (v : V) (l : List Value) (j : Nat) : Option Nat → Prop
  | none => ∃ c, l[j]? = some c ∧ R φ v c
  | some n => ((l.drop j).take n).length = n ∧ R φ v (.agg ((l.drop j).take n).toArray)
theorem part_sound {el : List V} {l : List Value} (h : Rs φ el l) {j : Nat} {k : Option Nat} (hv : part el j k = some v) : PartAt φ v l j k := by
  cases k with
  | none => exact h.get hv
  | some n =>
    simp only [part] at hv
    split at hv
    · rename_i hjn
      cases hv
      refine ⟨by have := h.len; simp; omega, ?_⟩
      simp only [R]
      exact ⟨_, rfl, (h.drop j).take n⟩
    · cases hv
def CellsAt (φ : Phi) (w : World) (v : V) (B off : Nat) : Option Nat → Prop
  | none => ∃ c, w.cell? ⟨B, off, none⟩ = some c ∧ R φ v c
  | some n => ∃ l : List Value, l.length = n ∧ (∀ j u, l[j]? = some u → w.cell? ((⟨B, off, none⟩ : Addr).add j) = some u) ∧ R φ v (.agg l.toArray)
theorem loadV_sound (hst : St φ m w) {k : Option Nat} {a : V} {ca : Value} (ra : R φ a ca) (hv : loadV m k a = some v) :
    ∃ B off, ca = .pointer (some ⟨B, off, none⟩) ∧ CellsAt φ w v B off k := by
  unfold loadV at hv
  split at hv
  · rename_i b i j
    split at hv
    · rename_i own els hb
      simp only [Option.bind_eq_some_iff] at hv
      obtain ⟨el, hel, hv⟩ := hv
      simp only [R] at ra
      obtain ⟨p, hp, rfl⟩ := ra
      obtain ⟨q, hq, hr⟩ := hst.blk b own els hb
      rw [hp] at hq; cases hq
      have hi : i < els.length := (List.getElem?_eq_some_iff.1 hel).1
      obtain ⟨c, e, frz, u, bb, r, y, g1, g2, g3, g4, g5, g6, g7, _⟩ := hr.cut (i := i) (n := 1) (by omega)
      rw [take_one hel] at g7
      simp only [List.flatten_cons, List.flatten_nil, List.append_nil] at g7
      refine ⟨_, _, rfl, ?_⟩
      have hs := part_sound g7 hv
      cases k with
      | none =>
        obtain ⟨cv, h1, h2⟩ := hs
        exact ⟨cv, by rw [← g5]; exact cell_at g1 g4 h1, h2⟩
      | some n =>
        refine ⟨_, hs.1, fun t x hx => ?_, hs.2⟩
        rw [addr_add, ← g5, Nat.add_assoc]
        refine cell_at g1 g4 ?_
        rw [List.getElem?_take] at hx
        split at hx
        · rwa [List.getElem?_drop] at hx
        · cases hx
    · cases hv
  · cases hv
theorem kindT_none {t : TypeId} (h : kindT P t = some none) : ∃ d i, P.underlying t = some d ∧ P.info? t = some i ∧ i.size = 1 ∧ (∀ w : World, (isAgg t).run P w = .ok false w) := by
  unfold kindT aggT sizeT at h
  cases hu : P.underlying t with
  | none => simp [hu] at h
  | some d =>
    cases hi : P.info? t with
    | none => cases d <;> simp [hu, hi] at h
    | some i =>
      simp only [hu, hi, Option.map_some] at h
      split at h
      · cases h
      · rename_i h1 h2
        cases d <;> simp at h1 h2 <;> exact ⟨_, i, rfl, rfl, h2, fun w => by simp [isAgg, run_underlying hu]⟩
      · cases h
theorem kindT_some {t : TypeId} {n : Nat} (h : kindT P t = some (some n)) : ∃ i, P.info? t = some i ∧ i.size = n ∧ (∀ w : World, (isAgg t).run P w = .ok true w) := by
  unfold kindT aggT sizeT at h
  cases hu : P.underlying t with
  | none => simp [hu] at h
  | some d =>
    cases hi : P.info? t with
    | none => cases d <;> simp [hu, hi] at h
    | some i =>
      simp only [hu, hi, Option.map_some] at h
      split at h
      · rename_i h1 h2
        cases h
        cases d <;> simp at h1 h2 <;> exact ⟨i, rfl, h2, fun w => by simp [isAgg, run_underlying hu]⟩
      · cases h
      · cases h
theorem run_loadVar_of {t : TypeId} {k : Option Nat} (hk : kindT P t = some k) (hst : St φ m w) {a : V} {ca : Value} (ra : R φ a ca) (hv : loadV m k a = some v) :
    ∃ ad cv, ca = .pointer (some ad) ∧ (loadVar t ad).run P w = .ok cv w ∧ R φ v cv := by
  obtain ⟨B, off, rfl, h⟩ := loadV_sound hst ra hv
  cases k with
  | none =>
    obtain ⟨d, i, _, _, _, hag⟩ := kindT_none hk
    obtain ⟨c, h1, h2⟩ := h
    exact ⟨_, c, rfl, by simp [loadVar, hag, load, Sem.run, h1], h2⟩
  | some n =>
    obtain ⟨i, hi, hn, hag⟩ := kindT_some hk
    obtain ⟨l, h1, h2, h3⟩ := h
    refine ⟨_, _, rfl, ?_, h3⟩
    have hl := run_loadCells_list (P := P) w ⟨B, off, none⟩ l h2
    simp [loadVar, hag, sizeOf, typeInfo, hi, hn, ← h1, hl]
theorem does_load (hst : St φ m w) (hA : RF φ N fr A) {t : TypeId} {x : Operand} (ho : o.op = .load t x) {k : Option Nat} (hk : kindT P t = some k) {a : Arg} (ha : argC N x = some a) {tgt : Option Nat} (hp : prim (.load k a) tgt fr m = some (v, m')) : Does0 P o A w φ m v m' := by
  simp only [prim, Option.map_eq_some_iff] at hp
  obtain ⟨u, hu, e⟩ := hp
  cases e
  obtain ⟨ad, cv, h1, h2, h3⟩ := run_loadVar_of hk hst (argC_sound hA ha) hu
  exact Does.quiet hst (by simp [execOp, ho, Instr.loadAt, Instr.sureAddr, h1, h2]) h3

/-- a row of cells of an own block is written. -/
theorem run_write {B : Nat} {c : Array Value} {e : TypeId} (hB : w.heap[B]? = some (.cells c e (0, 0))) {u b r news : List Value} (hc : c.toList = u ++ (b ++ r)) (hl : news.length = b.length) (h1 : ∀ x ∈ news, x.oneCell' = true) :
    (storeCells ⟨B, u.length, none⟩ news).run P w = .ok () (w.setRow B (u ++ (news ++ r)).toArray) := by
  have hs : c.size = u.length + (b.length + r.length) := by rw [← Array.length_toList, hc]; simp
  have := run_storeCells_at P B u.length e news 0 c w hB (by omega) h1
  rw [this, hc]
  congr 3
  simp only [Nat.add_zero]
  rw [List.take_left, List.append_assoc]
  congr 2
  rw [hl, ← List.append_assoc, ← List.length_append, List.drop_left]
theorem setRow_other' (w : World) (g : Nat) (cs : Array Value) : ∀ B, B ≠ g → (w.setRow g cs).heap[B]? = w.heap[B]? := fun B hB => by
  simp only [World.setRow, Array.getElem?_modify]
  rw [if_neg (fun e => hB e.symm)]
theorem setRow_size (w : World) (g : Nat) (cs : Array Value) : (w.setRow g cs).heap.size = w.heap.size := by simp [World.setRow]

theorem splice_split {el : List V} {j : Nat} {cs : List V} (h : j + cs.length ≤ el.length) {l news : List Value} (hl : Rs φ el l) (hn : Rs φ cs news) :
    ∃ b1 b2 b3, l = b1 ++ (b2 ++ b3) ∧ b1.length = j ∧ b2.length = news.length ∧ Rs φ (splice el j cs) (b1 ++ (news ++ b3)) := by
  refine ⟨l.take j, (l.drop j).take news.length, l.drop (j + news.length), ?_, ?_, ?_, ?_⟩
  · rw [← List.drop_drop, List.take_append_drop, List.take_append_drop]
  · rw [List.length_take, hl.len]; omega
  · rw [List.length_take, List.length_drop, hl.len, hn.len]; omega
  · rw [hn.len]
    exact (hl.take j).append (hn.append (hl.drop _))

theorem storeV_sound (hst : St φ m w) {n : Nat} {a x : V} {ca cx : Value} (ra : R φ a ca) (rx : R φ x cx) (hv : storeV m n a x = some m') :
    ∃ ad w', ca = .pointer (some ad) ∧ cx.cells.size = n ∧ (storeCells ad cx.cells.toList).run P w = .ok () w' ∧ Stp φ m w φ m' w' := by
  unfold storeV at hv
  split at hv
  · rename_i b i j
    split at hv
    · rename_i els hb
      split at hv
      · rename_i el hel
        split at hv
        · rename_i hcond
          obtain ⟨c1, c2, c3⟩ := hcond
          cases hv
          simp only [R] at ra
          obtain ⟨p, hp, rfl⟩ := ra
          obtain ⟨q, hq, hr⟩ := hst.blk b true els hb
          rw [hp] at hq; cases hq
          have hi : i < els.length := (List.getElem?_eq_some_iff.1 hel).1
          obtain ⟨c, e, frz, u, bb, r, y, g1, g2, g3, g4, g5, g6, g7, xx, a1, a3, hu, hrr, hx, k1, k3⟩ := hr.cut (i := i) (n := 1) (by omega)
          rw [take_one hel] at g7
          simp only [List.flatten_cons, List.flatten_nil, List.append_nil] at g7
          have rc := rx.cells
          obtain ⟨b1, b2, b3, e1, e2, e3, e4⟩ := splice_split (j := j) (cs := x.cells) (by omega) g7 rc
          have hfr := g3 rfl
          subst hfr
          have hcl : c.toList = (u ++ b1) ++ (b2 ++ (b3 ++ r)) := by rw [g4, e1]; simp
          have hnews := rc.cells_all (fun v hv => List.all_eq_true.1 c3 v hv)
          have hrun := run_write (P := P) g1 hcl (news := cx.cells.toList) (by rw [e3]) hnews
          have hlen : (u ++ b1).length = p.base + i * p.esz + j := by rw [List.length_append, g5, e2]
          rw [hlen] at hrun
          have hel' : (els.set i (splice el j x.cells)) = els.take i ++ (splice el j x.cells :: els.drop (i + 1)) := by rw [List.set_eq_take_append_cons_drop, if_pos hi]
          have hsl : (splice el j x.cells).length = p.esz := by
            have := (hr.wf el (List.mem_of_getElem? hel)).1
            simp [splice]; omega
          refine ⟨_, _, rfl, by rw [← Array.length_toList, rc.len, c1], hrun, ?_⟩
          refine Stp.write hst hb hp ?_ (c := (u ++ b1 ++ (cx.cells.toList ++ (b3 ++ r))).toArray) (e := e) (x := xx) (a := a1 ++ ((b1 ++ (cx.cells.toList ++ b3)) ++ a3)) (y := y) ?_ hx ?_ ?_ (setRow_heap w p.blk c _ e (0, 0) g1) (setRow_other' w p.blk _) (setRow_size w p.blk _) rfl rfl rfl
          · intro el2 h2
            rw [hel'] at h2
            rcases List.mem_append.1 h2 with h2 | h2
            · exact hr.wf el2 (List.mem_of_mem_take h2)
            · rcases List.mem_cons.1 h2 with rfl | h2
              · refine ⟨hsl, fun v hv => ?_⟩
                have hw := (hr.wf el (List.mem_of_getElem? hel)).2
                simp only [splice, List.mem_append] at hv
                rcases hv with hv | hv | hv
                · exact hw v (List.mem_of_mem_take hv)
                · exact List.all_eq_true.1 c3 v hv
                · exact hw v (List.mem_of_mem_drop hv)
              · exact hr.wf el2 (List.mem_of_mem_drop h2)
          · simp [hu, hrr]
          · have hcs : c.size = (u ++ b1 ++ (b2 ++ (b3 ++ r))).length := by rw [← hcl, Array.length_toList]
            rw [← g2, hcs]
            simp [e3]
          · rw [hel', List.flatten_append, List.flatten_cons]
            exact k1.append (e4.append k3)
        · cases hv
      · cases hv
    · cases hv
  · cases hv
theorem does_store (hst : St φ m w) (hA : RF φ N fr A) {t : TypeId} {x y : Operand} (ho : o.op = .store t x y) {n : Nat} (hk : sizeT P t = some n) {a b : Arg} (ha : argC N x = some a) (hb : argC N y = some b)
    {tgt : Option Nat} (hp : prim (.store n a b) tgt fr m = some (v, m')) : Does0 P o A w φ m v m' := by
  simp only [prim, Option.map_eq_some_iff] at hp
  obtain ⟨u, hu, e⟩ := hp
  cases e
  obtain ⟨ad, w', h1, h2, h3, h4⟩ := storeV_sound (P := P) hst (argC_sound hA ha) (argC_sound hA hb) hu
  simp only [sizeT, Option.map_eq_some_iff] at hk
  obtain ⟨i, hi, hsz⟩ := hk
  exact ⟨Go.undef, w', φ, .inr ⟨by simp [execOp, ho, Instr.storeAt, Instr.sureAddr, h1, storeVar, sizeOf, typeInfo, hi, hsz, h2, h3], rfl⟩, h4, R_undef φ⟩
end
end Go.AM
