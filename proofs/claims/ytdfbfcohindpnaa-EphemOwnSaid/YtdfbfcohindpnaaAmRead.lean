/- What a slice that was handed in is in the abstract memory. -/
import Derived.Test.YtdfbfcohindpnaaAmCall
import Derived.Deep.Slices
import Derived.ChangeSame
set_option linter.unusedVariables false
set_option linter.unusedSimpArgs false
namespace Go.AM
open Go
theorem rowAt_le {p : Program} {fits : TypeId → Bool} {d : Nat} {e : TypeId} {count off n : Nat} (h : rowAt p fits d e count off n = true) : off ≤ count * p.cellsOf e := by
  cases d with
  | zero => simp [rowAt] at h
  | succ d =>
    simp only [rowAt] at h
    split at h
    · cases h
    · rename_i hs
      have hdm := Nat.div_add_mod off (p.cellsOf e)
      have hml := Nat.mod_lt off (Nat.pos_of_ne_zero hs)
      simp only [Bool.or_eq_true, Bool.and_eq_true, beq_iff_eq, decide_eq_true_eq] at h
      rcases h with ⟨⟨h1, h2⟩, _⟩ | ⟨h1, _⟩
      · have : p.cellsOf e * (off / p.cellsOf e) ≤ p.cellsOf e * count := Nat.mul_le_mul_left _ (by omega)
        rw [Nat.mul_comm count]
        omega
      · have : p.cellsOf e * (off / p.cellsOf e + 1) ≤ p.cellsOf e * count := Nat.mul_le_mul_left _ (by omega)
        rw [Nat.mul_comm count]
        rw [Nat.mul_add] at this
        omega
theorem liesAt_le {p : Program} : ∀ {d : Nat} {e : TypeId} {count off : Nat} {u : TypeId} {n : Nat}, liesAt p d e count off u n = true → off ≤ count * p.cellsOf e
  | 0, _, _, _, _, _, h => by simp [liesAt] at h
  | d + 1, e, count, off, u, n, h => by
    simp only [liesAt, Bool.or_eq_true] at h
    rcases h with h | h
    · exact rowAt_le h
    · split at h
      · exact liesAt_le h
      · cases h
theorem has_cells {P : Program} {w : World} {r : Reach} {base : Nat} {a : Addr} {e : TypeId} {n : Nat} (h : w.has P r base a e n) : a.spot = none ∧ ∃ c t fr, w.heap[a.block]? = some (.cells c t fr) ∧ a.off ≤ c.size := by
  obtain ⟨_, hs, row, cells, h1, h2⟩ := h
  refine ⟨hs, ?_⟩
  unfold World.shape? at h1
  split at h1
  · rename_i c t fr hc
    simp only [Option.some.injEq, Prod.mk.injEq] at h1
    obtain ⟨rfl, rfl⟩ := h1
    refine ⟨c, t, fr, hc, Nat.le_trans (liesAt_le h2) (Nat.div_mul_le_self _ _)⟩
  · cases h1
/-- where a slice's elements are cells that the abstract values E tell. -/
theorem read_row {w : World} {a : Addr} {c : Array Value} {t : TypeId} {fr : Nat × Nat} {cap z : Nat} {φ : Phi} (hs : a.spot = none) (hc : w.heap[a.block]? = some (.cells c t fr)) (E : Nat → List V)
    (hE : ∀ i, i < cap → ∃ cs, w.cells? 0 (a.add (i * z)) z = some cs ∧ Rs φ (E i) cs) : ∀ n, n ≤ cap → Rs φ (((List.range n).map E).flatten) ((c.toList.drop a.off).take (n * z)) ∧ (0 < n * z → a.off + n * z ≤ c.size)
  | 0, _ => by simp [Rs]
  | n + 1, hn => by
    obtain ⟨h1, h2⟩ := read_row hs hc E hE n (by omega)
    obtain ⟨cs, g1, g2⟩ := hE n (by omega)
    obtain ⟨_, gl, gc⟩ := World.cells?_some g1
    have gc' : ∀ j, j < z → c[a.off + n * z + j]? = cs[j]? := by
      intro j hj
      have := gc j hj
      rw [Deep.add_add] at this
      rw [← this]
      unfold World.cell? Addr.add
      by_cases h0 : n * z + j = 0
      · rw [if_pos h0, hc]
        simp only [hs, Option.isSome_none, Bool.false_eq_true, if_false]
        congr 1
        omega
      · rw [if_neg h0]
        simp only [hc, Option.isSome_none, Bool.false_eq_true, if_false]
        congr 1
        omega
    have hcs : ((c.toList.drop a.off).drop (n * z)).take z = cs := by
      apply List.ext_getElem?
      intro j
      by_cases hj : j < z
      · rw [List.getElem?_take, if_pos hj, List.getElem?_drop, List.getElem?_drop, ← gc' j hj]
        simp [Nat.add_assoc]
      · rw [List.getElem?_take, if_neg hj, List.getElem?_eq_none (by omega)]
    have e : (n + 1) * z = n * z + z := Nat.succ_mul n z
    refine ⟨?_, ?_⟩
    · rw [List.range_succ, List.map_append, List.flatten_append, e, List.take_add]
      refine Rs.append h1 ?_
      rw [hcs]
      simpa using g2
    · intro _
      rw [e]
      by_cases hz : z = 0
      · subst hz
        omega
      · have h3 := gc' (z - 1) (by omega)
        rw [List.getElem?_eq_getElem (show z - 1 < cs.length by omega)] at h3
        have := (Array.getElem?_eq_some_iff.1 h3).1
        omega
/-- a slice that was handed in, alone in the memory. -/
theorem read_slice {w : World} {a : Addr} {c : Array Value} {t : TypeId} {fr : Nat × Nat} {len cap z : Nat} (hz : 0 < z) (hs : a.spot = none) (hc : w.heap[a.block]? = some (.cells c t fr)) (hoff : a.off ≤ c.size) (hl : len ≤ cap) (hm : cap ≤ maxLen) (E : Nat → List V) (hEz : ∀ i, i < cap → (E i).length = z ∧ ∀ v ∈ E i, v.isCell = true)
    (hE : ∀ φ i, i < cap → ∃ cs, w.cells? 0 (a.add (i * z)) z = some cs ∧ Rs φ (E i) cs) :
    ∃ φ : Phi, St φ [.cells false ((List.range cap).map E)] w ∧ R φ (.slice 0 0 len cap true z) (.slice (some a) len cap) ∧ elems [.cells false ((List.range cap).map E)] (.slice 0 0 len cap true z) = some ((List.range len).map E) := by
  refine ⟨fun b => if b = 0 then some ⟨a.block, a.off, z, c.size⟩ else none, ⟨?_, ?_, ?_⟩, ?_, ?_⟩
  · intro b hb
    simp at hb
    simp; omega
  · intro b own els hb
    cases b with
    | succ b => simp at hb
    | zero =>
      simp only [List.getElem?_cons_zero, Option.some.injEq, Blk.cells.injEq] at hb
      obtain ⟨rfl, rfl⟩ := hb
      refine ⟨_, if_pos rfl, ?_, ?_⟩
      · intro el hel
        simp only [List.mem_map, List.mem_range] at hel
        obtain ⟨i, hi, rfl⟩ := hel
        exact hEz i hi
      · refine ⟨c, t, fr, c.toList.take a.off, (c.toList.drop a.off).take (cap * z), (c.toList.drop a.off).drop (cap * z), hc, rfl, (fun h => by cases h), ?_, ?_, ?_⟩
        · rw [List.take_append_drop, List.take_append_drop]
        · simp [hoff]
        · exact (read_row hs hc E (hE _) cap (Nat.le_refl _)).1
  · intro b els b' own' els' p p' hb
    cases b with
    | succ b => simp at hb
    | zero => simp at hb
  · simp only [R]
    refine ⟨⟨a.block, a.off, z, c.size⟩, a.off, cap, by simp, rfl, ?_, Nat.le_refl _, fun _ => rfl, hm, hl, .inl (by simp), ?_⟩
    · obtain ⟨b, o, s⟩ := a
      simp only at hs
      subst hs
      rfl
    · by_cases h0 : cap = 0
      · subst h0; simpa using hoff
      · exact (read_row hs hc E (hE (fun _ => none)) cap (Nat.le_refl _)).2 (Nat.mul_pos (by omega) hz)
  · simp only [elems, List.getElem?_cons_zero, List.length_map, List.length_range, Nat.zero_add, hl, if_true, List.drop_zero, ← List.map_take, List.take_range, Nat.min_eq_left hl]
end Go.AM
