/- heap.Objects: what is told of it is so. -/
import Derived.Test.YtnpefpiggklimaaGreatHbA
import Derived.Test.YtnpefpiggklimaaGreatHpA
import Derived.Test.YtnpefpiggklimaaGreatAmToldA
import Derived.Test.YtnpefpiggklimaaGreatAmRead
import Derived.Test.YtnpefpiggklimaaGreatHbLay
import Derived.Test.YtnpefpiggklimaaGreatAmToldA
set_option linter.unusedVariables false
set_option linter.unusedSimpArgs false

set_option maxRecDepth 100000
namespace Go.AM.G
open Go Go.AM Go.Proofs Go.RowKit
def toRow (el : List V) : Row :=
  match el with
  | [.int .i64 a, .int .i64 b, .int .u64 c, .int .i64 d, .int .u64 e, .bool f] => ⟨a, b, c, d, e, f⟩
  | _ => ⟨0, 0, 0, 0, 0, false⟩
theorem isO_row {el : List V} (h : isO el = true) : el = [.int .i64 (toRow el).c0, .int .i64 (toRow el).c1, .int .u64 (toRow el).addr, .int .i64 (toRow el).c3, .int .u64 (toRow el).c4, .bool (toRow el).cur] := by
  unfold isO at h
  split at h
  · rfl
  · cases h
theorem row_cs {φ : Phi} {el : List V} (h : isO el = true) {l : List Value} (hr : Rs φ el l) : l = (toRow el).cs := by
  rw [isO_row h] at hr
  simp only [Rs, R] at hr
  obtain ⟨_, _, rfl, rfl, _, _, rfl, rfl, _, _, rfl, rfl, _, _, rfl, rfl, _, _, rfl, rfl, _, _, rfl, rfl, rfl⟩ := hr
  rfl
theorem curV_rows : ∀ {els : List (List V)}, els.all isO = true → curV els = (curRows (els.map toRow)).map fun r => [.int .u64 r.addr]
  | [], _ => rfl
  | el :: els, h => by
    simp only [List.all_cons, Bool.and_eq_true] at h
    have ih := curV_rows h.2
    have he := isO_row h.1
    generalize toRow el = r at he
    subst he
    obtain ⟨a, b, c, d, e, f⟩ := r
    cases f with
    | true => show [_] :: curV els = _; rw [ih]; rfl
    | false => show curV els = _; rw [ih]; rfl
theorem addrs_R {φ : Phi} : ∀ L : List Row, Rs φ (L.map fun r => [V.int .u64 r.addr]).flatten (addrs L)
  | [] => Rs.nil
  | r :: L => by
    show Rs φ (V.int .u64 r.addr :: (L.map fun r => [V.int .u64 r.addr]).flatten) (Value.int .u64 r.addr :: addrs L)
    exact Rs.cons R.int (addrs_R L)
/-- the rows of a slice, in the world. -/
theorem rows_at {φ : Phi} {m : Mem} {w : World} (hst : St φ m w) {ov : V} {c : Value} (hr : R φ ov c) {els : List (List V)} (he : elems m ov = some els) (hz : zOk ov 6 = true) (ho : els.all isO = true) :
    ∃ (adr : Option Addr) (cap rb ro : Nat), c = .slice adr (els.map toRow).length cap ∧ (0 < (els.map toRow).length → adr = some ⟨rb, ro, none⟩) ∧ RowsAt w rb ro (els.map toRow) ∧ (0 < (els.map toRow).length → rb < w.heap.size) := by
  cases ov with
  | nils =>
    simp only [elems, Option.some.injEq] at he
    subst he
    simp only [R] at hr
    subst hr
    exact ⟨none, 0, 0, 0, rfl, fun h => (by simp at h), fun i r h => (by simp at h), fun h => (by simp at h)⟩
  | emp =>
    simp only [elems] at he
    try cases he
  | slice b i len cap ex z =>
    simp only [zOk, beq_iff_eq, decide_eq_true_eq] at hz
    simp only [R] at hr
    obtain ⟨p, a, cap', hp, hze, rfl, _, _, _, hlc, ha, _⟩ := hr
    have hz6 : z = 6 := by first | exact hz | (exact hz.symm)
    subst hz6
    simp only [elems] at he
    split at he
    case h_2 => cases he
    rename_i own E hE
    split at he
    case isFalse => cases he
    rename_i hil
    simp only [Option.some.injEq] at he
    subst he
    have hlen : ((E.drop i).take len).length = len := by rw [List.length_take, List.length_drop]; omega
    obtain ⟨p', hp', hbr⟩ := hst.blk b own E hE
    rw [hp] at hp'
    cases hp'
    refine ⟨_, cap', p.blk, a, by rw [List.length_map, hlen], fun _ => rfl, ?_, fun _ => hbr.lt⟩
    intro k r hk j u hj
    rw [List.getElem?_map, Option.map_eq_some_iff] at hk
    obtain ⟨el, hel, rfl⟩ := hk
    have hkl : k < len := by have := (List.getElem?_eq_some_iff.1 hel).1; omega
    have hao : a = p.base + i * 6 := by rcases ha with h | h <;> omega
    have hio : isO el = true := List.all_eq_true.1 ho el (List.mem_of_getElem? hel)
    have hE2 : E[i + k]? = some el := by
      rw [List.getElem?_take, if_pos hkl, List.getElem?_drop] at hel
      exact hel
    have hl6 : el.length = 6 := by rw [isO_row hio]; rfl
    have hload : loadV m (some 6) (.ptr b (i + k) 0) = some (.agg el) := by
      simp only [loadV, hE, hE2, Option.bind_some, part, Nat.zero_add, hl6, Nat.le_refl, if_true, List.drop_zero]
      rw [List.take_of_length_le (by omega)]
    have hR : R φ (.ptr b (i + k) 0) (.pointer (some ⟨p.blk, p.base + (i + k) * p.esz + 0, none⟩)) := by simp only [R]; exact ⟨p, hp, rfl⟩
    obtain ⟨B, off, e1, l, hl, hcell, hRl⟩ := loadV_sound hst hR hload
    simp only [Value.pointer.injEq, Option.some.injEq, Addr.mk.injEq] at e1
    obtain ⟨rfl, rfl, _⟩ := e1
    simp only [R] at hRl
    obtain ⟨l', e2, hRl⟩ := hRl
    have e3 : l = l' := by simpa using e2
    subst e3
    have hlr := row_cs hio hRl
    rw [← hlr] at hj
    have := hcell j u hj
    rw [addr_add] at this
    rw [← this, hze, hao]
    congr 2
    rw [Nat.add_mul]
    omega
  | _ => cases he
set_option maxHeartbeats 1000000 in
theorem obj_told {call : CallF} (hc : SoundCall Tryz.prog call) {args : List V} {m m' : Mem} {v : V} (e : tObj call args m = some (v, m')) : CallOk Tryz.prog n_heap_Objects args m v m' := by
  unfold tObj at e
  split at e
  case isFalse => cases e
  rename_i hi
  refine ⟨⟨_, Tryz.func11, rfl, by decide⟩, fun φ w cargs hst hr => ?_⟩
  unfold isHp at hi
  split at hi
  case h_2 => cases hi
  rename_i va vb vc vd
  simp only [Bool.and_eq_true] at hi
  obtain ⟨⟨⟨i0, i1⟩, i2⟩, i3⟩ := hi
  have hr' := hr
  simp only [Rs, R] at hr
  obtain ⟨_, _, rfl, ⟨l, rfl, c0, _, rfl, r0, c1, _, rfl, r1, c2, _, rfl, r2, c3, _, rfl, r3, rfl⟩, rfl⟩ := hr
  have hwb : Below w.heap.size w (w.alloc (.cells #[c0, c1, c2, c3] 31)) := (Below.refl _ w).alloc (Nat.le_refl _) _
  have hs0 := Stp.below hst hwb
  refine callsIn_wide.1 (objects_in Fence.wide 6 trivial trivial trivial trivial rfl (Nat.le_refl _) c0 c1 c2 c3 w (r0.cell i0) (r1.cell i1) (r2.cell i2) (r3.cell i3) (fun e w' => ∃ φ' cv, e = .returned cv ∧ Stp φ m w φ' m' w' ∧ R φ' v cv) ((callsIn_wide (n := 5)).2 ?_))
  cases hcall : call n_heap_open [.agg [va, vb, vc, vd]] m with
  | none => rw [hcall] at e; cases e
  | some y =>
    obtain ⟨v1, m1⟩ := y
    rw [hcall] at e
    obtain ⟨_, hopen⟩ := hc _ _ _ _ _ hcall
    refine (hopen φ _ _ hs0.st hr').mono ?_
    rintro e1 w1 ⟨φ1, cv, rfl, hs1, hcv⟩
    have hs := hs0.trans hs1
    split at e
    · rename_i k m2 heq
      simp only [Option.some.injEq, Prod.mk.injEq] at heq
      obtain ⟨rfl, rfl⟩ := heq
      split at e
      · cases e
      rename_i hk
      cases e
      simp only [R, Rs] at hcv
      obtain ⟨_, rfl, _, _, rfl, rfl, _, _, rfl, rfl, rfl⟩ := hcv
      exact .inl ⟨k, rfl, hk, φ1, _, rfl, hs, by simp only [R, Rs]; exact ⟨_, rfl, _, _, rfl, rfl, _, _, rfl, rfl, rfl⟩⟩
    · rename_i P m2 heq
      simp only [Option.some.injEq, Prod.mk.injEq] at heq
      obtain ⟨rfl, rfl⟩ := heq
      split at e
      case h_2 => cases e
      rename_i own s0 s1 s2 s3 ov hP
      split at e
      case h_2 => cases e
      rename_i els hels
      split at e
      case isFalse => cases e
      rename_i hall
      obtain ⟨ho, hlt, hz⟩ := hall
      simp only [R, Rs] at hcv
      obtain ⟨_, rfl, _, _, rfl, ⟨p, hp, rfl⟩, _, _, rfl, rfl, rfl⟩ := hcv
      have hload : loadV m1 none (.ptr P 0 4) = some ov := by
        simp only [loadV, hP]
        rfl
      have hR : R φ1 (.ptr P 0 4) (.pointer (some ⟨p.blk, p.base + 0 * p.esz + 0 + 4, none⟩)) := by simp only [R]; exact ⟨p, hp, rfl⟩
      obtain ⟨B, off, e1, c, hcell, hRc⟩ := loadV_sound hs1.st hR hload
      simp only [Value.pointer.injEq, Option.some.injEq, Addr.mk.injEq] at e1
      obtain ⟨rfl, rfl, _⟩ := e1
      obtain ⟨adr, cap, rb, ro, rfl, ha, hrows, hrb⟩ := rows_at hs1.st hRc hels hz ho
      obtain ⟨p', hp', hbr⟩ := hs1.st.blk P own _ hP
      rw [hp] at hp'
      cases hp'
      have hcv := curV_rows ho
      obtain ⟨rb', ro', ha', hrows', hrb'⟩ : ∃ rb' ro', (0 < (els.map toRow).length → adr = some ⟨rb', ro', none⟩) ∧ RowsAt w1 rb' ro' (els.map toRow) ∧ rb' < w1.heap.size := by
        by_cases h0 : 0 < (els.map toRow).length
        · exact ⟨rb, ro, ha, hrows, hrb h0⟩
        · refine ⟨p.blk, 0, fun h => absurd h h0, fun i r h => ?_, hbr.lt⟩
          have := (List.getElem?_eq_some_iff.1 h).1
          omega
      refine .inr ⟨p.blk, p.base + 0 * p.esz + 0, rb', ro', cap, adr, els.map toRow, rfl, hcell, ha', hrows', by simpa using hlt, hrb', hbr.lt, fun v2 W' hrow hnil hbel => ?_⟩
      generalize curRows (els.map toRow) = L at hcv hrow hnil
      cases L with
      | nil =>
        rw [hcv] at e
        cases e
        rw [hnil rfl]
        exact ⟨φ1, _, rfl, hs.trans (Stp.below hs.st hbel), by simp only [R, Rs]; exact ⟨_, rfl, _, _, rfl, rfl, _, _, rfl, rfl, rfl⟩⟩
      | cons r L =>
        rw [hcv] at e
        simp only [List.map_cons] at e
        cases e
        obtain ⟨hxl, hrow | ⟨g, cp, cur, rfl, hg1, hg2, hg3, hg4, hg5, hg6⟩⟩ := hrow
        · have := hrow.2; simp at this
        have hb := Stp.behind hs.st hbel (els := (r :: L).map fun r => [V.int .u64 r.addr]) (z := 1) (fun el hel => by
          obtain ⟨x, _, rfl⟩ := List.mem_map.1 hel
          exact ⟨rfl, fun v hv => by simp at hv; subst hv; rfl⟩) hg1 hg2 (a := addrs (r :: L)) (y := cur.toList.drop ((r :: L).length * 1)) (by rw [← hg6, List.take_append_drop]) (addrs_R (r :: L))
        refine ⟨_, _, rfl, hs.trans hb, ?_⟩
        simp only [R, Rs]
        refine ⟨_, rfl, _, _, rfl, ⟨_, 0, cp, Phi.set_same _ _ _, rfl, ?_, ?_, ?_, hg4, ?_, .inl (by simp), ?_⟩, _, _, rfl, rfl, rfl⟩
        · simp
        · simpa using hg3
        · intro h; cases h
        · simpa using hg3
        · show 0 + cp * 1 ≤ cur.size
          omega
    · cases e
end Go.AM.G


set_option maxRecDepth 100000
namespace Go.AM.G
open Go Go.AM Go.Proofs Go.Sort Go.RowKit
def encI (x : Int) : List V := [.int .i64 x]
def encVI (x : Int) : List Value := [.int .i64 x]
theorem encI_iff (φ : Phi) (x : Int) (cs : List Value) : Rs φ (encI x) cs ↔ cs = encVI x := by
  unfold encI encVI
  constructor
  · intro h
    simp only [Rs, R] at h
    obtain ⟨_, _, rfl, rfl, rfl⟩ := h
    rfl
  · rintro rfl
    exact Rs.one R.int
theorem flat1 (d : Array Int) : flatK encVI 1 d = d.map (Value.int .i64) := by
  apply Array.toList_inj.1
  rw [flatK_list encVI 1 (fun _ => rfl), Array.toList_map]
  generalize d.toList = l
  induction l with
  | nil => rfl
  | cons a l ih => simp only [List.map_cons, List.flatten_cons, ih]; rfl
theorem get_map (d : Array Int) {j : Nat} (h : j < d.size) : (d.map (Value.int .i64))[j]! = Value.int .i64 d[j]! := by
  rw [getElem!_pos _ j (by simpa using h), getElem!_pos d j h]; simp
theorem put1 (w : World) (blk off : Nat) (d : Array Int) : putRow (Value.int .i64) w blk off d = putRow id w blk off (flatK encVI 1 d) := by
  rw [flat1]
  unfold putRow
  congr 1
  funext c
  unfold putCells
  congr 1
  funext k x
  rw [Array.size_map]
  by_cases h : off ≤ k ∧ k < off + d.size
  · rw [if_pos h, if_pos h, get_map d (by omega)]; rfl
  · rw [if_neg h, if_neg h]
theorem srt1 (blk off cap : Nat) (d : Array Int) (w : World) (hH : HoldsK encVI 1 w blk off d) (hblk : blk < w.heap.size) (hsz : d.size < 4611686018427387904) :
    Calls Tryz.prog n_slices_Sort_int #[.slice (some ⟨blk, off, none⟩) d.size cap] w fun e w' => e = .returned (.tuple #[]) ∧ ∃ n os, w' = sortWorldK encVI 1 w blk off n (srtI d.toList).toArray os := by
  have hH' : Holds (Value.int .i64) w blk off d.toList.toArray := by
    intro j hj
    have hj' : j < d.size := by simpa using hj
    have := hH j (by rw [flat1, Array.size_map]; exact hj')
    rw [flat1, get_map d hj'] at this
    simpa using this
  have := HbLay.sort_calls blk off cap d.toList w hH' hblk (by simpa using hsz)
  rw [Array.length_toList] at this
  refine this.mono ?_
  rintro e w' ⟨rfl, n, os, rfl⟩
  refine ⟨rfl, n, os, ?_⟩
  show _ = grow (putRow id (Sort.ahead w n) blk off (flatK encVI 1 _)) os
  rw [← put1]
  rfl
theorem tSortI_some {a : List V} {m : Mem} {v : V} {m' : Mem} (e : tSortI a m = some (v, m')) : (a = [.nils] ∧ v = .tup [] ∧ m' = m) ∨ ∃ b cap ex els d, a = [.slice b 0 (List.length d) cap ex 1] ∧ m[b]? = some (.cells true els) ∧ d.length < 4611686018427387904 ∧ els.take d.length = i64s d ∧ v = .tup [] ∧ m' = m.set b (.cells true (i64s (srtI d) ++ els.drop d.length)) := by
  unfold tSortI at e
  split at e
  · rename_i b len cap ex
    split at e
    · rename_i els hb
      split at e
      · rename_i hc
        obtain ⟨h1, h2, h3⟩ := hc
        cases e
        have hl : ((els.take len).map decI).length = len := by simp; omega
        have he : i64s ((els.take len).map decI) = els.take len := by
          rw [i64s, List.map_map]
          conv => rhs; rw [← List.map_id (els.take len)]
          refine List.map_congr_left fun el hel => ?_
          have hi := List.all_eq_true.1 h3 el hel
          unfold isI at hi
          split at hi
          · rfl
          · cases hi
        exact .inr ⟨b, cap, ex, els, (els.take len).map decI, by rw [hl], hb, by rw [hl]; exact h2, by rw [hl, he], rfl, by rw [hl]⟩
      · cases e
    · cases e
  · cases e; exact .inl ⟨rfl, rfl, rfl⟩
  · cases e
theorem tSortI_eq {b cap : Nat} {ex : Bool} {els : List (List V)} {d : List Int} {m : Mem} (hb : m[b]? = some (.cells true els)) (hd : d.length < 4611686018427387904) (he : els.take d.length = i64s d) : tSortI [.slice b 0 d.length cap ex 1] m = some (.tup [], m.set b (.cells true (i64s (srtI d) ++ els.drop d.length))) := by
  have hl : d.length ≤ els.length := by
    have := congrArg List.length he
    simp only [List.length_take, List.length_map] at this
    omega
  have ha : (els.take d.length).all isI = true := by
    rw [he, List.all_eq_true]
    intro x hx
    obtain ⟨s, _, rfl⟩ := List.mem_map.1 hx
    rfl
  have hm : (els.take d.length).map decI = d := by
    rw [he, i64s, List.map_map]
    conv => rhs; rw [← List.map_id d]
    exact List.map_congr_left fun s _ => rfl
  simp only [tSortI, hb, hm]
  exact if_pos ⟨hl, hd, ha⟩
theorem tLen_some {a : List V} {m : Mem} {v : V} {m' : Mem} (e : tLen a m = some (v, m')) : ∃ n : Int, a = [.int .u64 n] ∧ 0 ≤ n ∧ n ≤ 18446744073709551615 ∧ v = .int .i64 ((Go.Lib.bitLen n.toNat : Nat) : Int) ∧ m' = m := by
  unfold tLen at e
  split at e
  · rename_i n
    split at e
    · rename_i h
      cases e
      exact ⟨n, rfl, h.1, h.2, rfl, rfl⟩
    · cases e
  · cases e
theorem toldOk0 : ToldOk Tryz.prog X0 := by
  intro f t h call hc args m v m' e
  unfold X0 at h
  split at h
  · rename_i hf
    cases h
    obtain ⟨n, rfl, h0, h1, rfl, rfl⟩ := tLen_some e
    rcases hf with rfl | rfl
    · refine ⟨⟨_, Tryz.func72, rfl, by decide⟩, fun φ w cargs hst hr => ?_⟩
      simp only [Rs, R] at hr
      obtain ⟨c, r, rfl, rfl, rfl⟩ := hr
      refine (HbLay.bits_Len n w h0 h1).mono ?_
      rintro e w' ⟨rfl, rfl⟩
      exact ⟨φ, _, rfl, Stp.refl hst, by simp only [R]⟩
    · refine ⟨⟨_, Tryz.func122, rfl, by decide⟩, fun φ w cargs hst hr => ?_⟩
      simp only [Rs, R] at hr
      obtain ⟨c, r, rfl, rfl, rfl⟩ := hr
      refine (HbLay.bits_Len64 n w h0 h1).mono ?_
      rintro e w' ⟨rfl, rfl⟩
      exact ⟨φ, _, rfl, Stp.refl hst, by simp only [R]⟩
  split at h
  · rename_i hf
    cases h
    subst hf
    rcases tSortI_some e with ⟨rfl, rfl, rfl⟩ | ⟨b, cap, ex, els, d, rfl, hb, h3, h4, rfl, rfl⟩
    · refine ⟨⟨_, Tryz.func41, rfl, by decide⟩, fun φ w cargs hst hr => ?_⟩
      simp only [Rs, R] at hr
      obtain ⟨c, r, rfl, rfl, rfl⟩ := hr
      refine (HbLay.sort_none none 0 w).mono ?_
      rintro e w' ⟨rfl, rfl⟩
      exact ⟨φ, _, rfl, Stp.refl hst, by simp [R, Rs]⟩
    · have := sort1_ok (P := Tryz.prog) (f := n_slices_Sort_int) ⟨_, Tryz.func41, rfl, by decide⟩ encI encVI 1 (fun _ => rfl) encI_iff (fun x => by simp [encI, V.isCell]) (fun d => (srtI d.toList).toArray) (fun d => by simp [srtI]) srt1 (cap := cap) (ex := ex) (d := d.toArray) hb (by simp only [List.size_toArray]; exact h4) (by simpa using h3)
      simp only [List.size_toArray] at this
      exact this
  split at h
  · rename_i hf
    cases h
    subst hf
    exact obj_told hc e
  · cases h
end Go.AM.G
