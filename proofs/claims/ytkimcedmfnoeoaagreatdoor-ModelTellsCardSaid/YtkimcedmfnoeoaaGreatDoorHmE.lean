/- An address is seen; a row is sorted. -/
import Derived.Test.YtkimcedmfnoeoaaGreatDoorHmA
import Derived.Test.YtkimcedmfnoeoaaGreatDoorHsM
set_option linter.unusedVariables false
set_option linter.unusedSimpArgs false
set_option maxRecDepth 100000
namespace Go.AM.G
open Go Go.AM
theorem mark_spec {m G : Mem} {es : List (Int × Int)} {v : V} {l : List Nat} {a : Nat} (hG : Gw (m.length + 3) G v 1 (u64l l)) (hE : MS es l) (hl : l.length < 1000000) :
  C S n_model_graph_reach_1 [.int .u64 (a : Nat), .ptr (m.length + 1) 0 0, .ptr (m.length + 2) 0 0] (m ++ .mp es :: .cells true [[.mp (some m.length)]] :: .cells true [[v]] :: G)
   (fun _ M' => ∃ es' v' G', M' = m ++ .mp es' :: .cells true [[.mp (some m.length)]] :: .cells true [[v']] :: G' ∧ Gw (m.length + 3) G' v' 1 (u64l (seeL l a)) ∧ MS es' (seeL l a) ∧ G.length ≤ G'.length ∧ (∀ j y, blkOf v ≠ some (m.length + 3 + j) → G[j]? = some y → G'[j]? = some y) ∧ (v' = v ∨ ∃ j, blkOf v' = some (m.length + 3 + j) ∧ G.length ≤ j)) := by
 have pb := @pushB_mk
 have vc := hG.cell
 have vb := hG.beq
 have hG' := PLift.up hG
 have hE' := PLift.up hE
 have he := hE a
 clear hG hE
 by_cases h0 : a = 0
 ·have c : ((a : Int) = 0) = True := eq_true (by omega)
  have e : seeL l a = l := if_pos (.inl h0)
  rw [e]
  clear h0 he e
  refine fn rfl ?_
  exact ⟨es, v, G, rfl, hG'.down, hE'.down, Nat.le_refl _, fun j y _ h => h, .inl rfl⟩
 have c : ((a : Int) = 0) = False := eq_false (by omega)
 by_cases hm : a ∈ l
 ·have e : seeL l a = l := if_pos (.inr hm)
  rw [e]
  rw [if_pos hm] at he
  clear h0 hm e
  refine fn rfl ?_
  exact ⟨es, v, G, rfl, hG'.down, hE'.down, Nat.le_refl _, fun j y _ h => h, .inl rfl⟩
 ·have e : seeL l a = l ++ [a] := if_neg (fun h => by rcases h with h | h; exact h0 h; exact hm h)
  rw [e]
  rw [if_neg hm] at he
  clear h0 hm e
  have hlen : (u64l l).length = l.length := by simp
  have hrw : u64l (l ++ [a]) = u64l l ++ [[.int .u64 (a : Nat)]] := by simp [u64l]
  rw [hrw]
  obtain ⟨els, hels⟩ : ∃ els, u64l l = els := ⟨_, rfl⟩
  have hG := hG'.down
  rw [hels] at hG hlen ⊢
  obtain ⟨G', l1, l2, hp⟩ := Gw.push (A := m ++ [.mp (setE (a : Int) 1 es), .cells true [[.mp (some m.length)]], .cells true [[v]]]) (zero := [.int .u64 0]) (bytes := 8) (hG.cast) rfl (by simp [roomy]; omega)
  simp only [List.append_assoc, List.cons_append, List.nil_append, List.length_append, List.length_cons, List.length_nil] at hp
  have l1' := PLift.up l1
  have l2' := PLift.up l2
  clear hG l1 l2 hels hlen hrw
  refine fn rfl ?_
  have l1 := l1'.down
  refine ⟨_, _, _, rfl, .inr ⟨G.length + 1, ?_, ?_⟩, hE'.down.see, ?_, fun j y hne hj => ?_, .inr ⟨G.length + 1, rfl, by omega⟩⟩
  ·rw [List.length_append]; rfl
  ·rw [← l1, List.getElem?_append_right (by omega), Nat.add_sub_cancel_left]; rfl
  ·rw [List.length_append, l1]; exact Nat.le_add_right _ _
  ·have := l2'.down j (by simpa only [List.length_append, List.length_cons, List.length_nil] using hne)
   exact getElem?_grow (this.trans hj)
theorem u64l_row {l : List Nat} : rowA l.toArray [] = u64l l := by simp [rowA, u64l]
theorem SortU_spec {M : Mem} {b : Nat} {l : List Nat} (hb : M[b]? = some (.cells true (u64l l))) (hl : l.length < 100000000000000000) : C S n_slices_Sort_uint64 [.slice b 0 l.length l.length false 1] M (fun r M' => r = .tup [] ∧ ∃ g, M' = M.set b (.cells true (u64l (srtN l))) ++ g) := by
 have hlt := (List.getElem?_eq_some_iff.1 hb).1
 have := SortW_spec (cap := l.length) (ex := false) (r := []) (Pl.of hlt) (d := l.toArray) (n := l.length) (by simp) hl
 have e : M.set b (.cells true (rowA l.toArray [])) = M := by
  rw [u64l_row]
  obtain ⟨hlt, hg⟩ := List.getElem?_eq_some_iff.1 hb
  rw [← hg]
  exact List.set_getElem_self hlt
 have e2 : at_ (fun X => M.set b X) [] l.toArray = M := e
 rw [e2] at this
 refine this.mono ?_
 rintro _ _ ⟨rfl, g, rfl⟩
 refine ⟨rfl, g, ?_⟩
 show M.set b (.cells true (rowA (srtN l).toArray [])) ++ g = _
 rw [u64l_row]
theorem ins_nil {m : Mem} : C S n_slices_insertionSortOrdered_uint64 [.nils, .int .i64 0, .int .i64 0] m (fun r m' => r = .tup [] ∧ ∃ g, m' = m ++ g) := by
 have w1 : IntKind.i64.wrap ((0 : Int) + 1) = 1 := by decide
 have w2 : IntKind.i64.wrap (1 : Int) = 1 := by decide
 have c1 : ((1 : Int) < 0) = False := eq_false (by omega)
 refine fn rfl ?_
 let I := fun (d : Nat) (fr : Frame) (M : Mem) => Has fr [(0, .nils), (2, .int .i64 0), (6, .int .i64 1)] ∧ ∃ g, M = m ++ g
 refine W_loop I ?_ 0 ⟨byam, [], by simp⟩
 rintro d fr _ ⟨F, ⟨g, rfl⟩⟩
 refine into ?_
 exact ⟨_, rfl⟩
theorem pdq_nil {m : Mem} {lim : Nat} : C S n_slices_pdqsortOrdered_uint64 [.nils, .int .i64 0, .int .i64 0, .int .i64 (lim : Nat)] m (fun r m' => r = .tup [] ∧ ∃ g, m' = m ++ g) := by
 have w1 : IntKind.i64.wrap ((0 : Int) - 0) = 0 := by decide
 have w2 : IntKind.i64.wrap (0 : Int) = 0 := by decide
 have c1 : ((0 : Int) ≤ 12) = True := eq_true (by omega)
 refine fn rfl ?_
 let I := fun (d : Nat) (fr : Frame) (M : Mem) => Has fr [(0, .nils), (1, .int .i64 0), (2, .int .i64 0)] ∧ ∃ g, M = m ++ g
 refine W_loop I ?_ 0 ⟨byam, [], by simp⟩
 rintro d fr _ ⟨F, ⟨g, rfl⟩⟩
 refine into ?_
 refine ins_nil.mono ?_
 rintro _ _ ⟨rfl, g2, rfl⟩
 refine am ?_
 exact ⟨_, rfl⟩
theorem SortU_nil {m : Mem} : C S n_slices_Sort_uint64 [.nils] m (fun r m' => r = .tup [] ∧ ∃ g, m' = m ++ g) := by
 have w1 : IntKind.u64.wrap (0 : Int) = 0 := by decide
 refine fn rfl ?_
 refine (Len_spec (n := 0) (by omega)).mono ?_
 rintro _ _ ⟨rfl, rfl⟩
 refine am ?_
 refine pdq_nil.mono ?_
 rintro _ _ ⟨rfl, g, rfl⟩
 refine am ?_
 exact ⟨_, rfl⟩
theorem srtN_all {l : List Nat} (h : l.Nodup) : (srtN l).Pairwise (· < ·) ∧ (∀ x, x ∈ srtN l ↔ x ∈ l) ∧ (srtN l).length = l.length := by
 have hm : ∀ x : Nat, x ∈ srtN l ↔ x ∈ l := fun x => List.mem_mergeSort
 have hp : (srtN l).Pairwise (fun x y => decide (x ≤ y) = true) := List.pairwise_mergeSort (fun a b c h1 h2 => by simp at *; omega) (fun a b => by simp; omega) _
 have hn : (srtN l).Nodup := (List.mergeSort_perm l _).nodup_iff.2 h
 refine ⟨(hp.and hn).imp fun {a b} ⟨h1, h2⟩ => ?_, hm, by simp [srtN]⟩
 have := of_decide_eq_true h1
 omega
end Go.AM.G
set_option maxRecDepth 100000
namespace Go.AM.G
open Go Go.AM
theorem Wk.bound {rt cs K W : List Nat} {a : Nat → Nat} {k n : Nat} {l : List Nat} (h : Wk rt cs (nxtM a K W) k n l) (hn : n < l.length) (hc : ∀ x, x ∈ cs → ∀ b, nxtM a K W x b → b ≠ 0 → b ∈ cs) {f i : Nat} (hf : f ≤ a (nx l n) % 256) (hi : i ≤ K.length) :
  (seeK K W (nx l n) (seeR a (nx l n) l f) i).length ≤ cs.length := by
 obtain ⟨x, ex⟩ : ∃ x, nx l n = x := ⟨_, rfl⟩
 rw [ex] at hf ⊢
 have hx := (h.rc x (ex ▸ nx_mem hn)).2.1
 obtain ⟨_, a2, a3⟩ := @seeR_all a x l f
 obtain ⟨_, b2, b3⟩ := @seeK_all K W x (seeR a x l f) i
 refine nodup_sub (b2 (a2 h.nd)) fun y hy => ?_
 rcases (b3 y).1 hy with hy | ⟨hne, j, hj, h1, h2⟩
 ·rcases (a3 y).1 hy with hy | ⟨hne, g, hg, h1, h2⟩
  ·exact (h.rc y hy).2.1
  ·exact hc x hx y (.inl ⟨g, by omega, h1, h2⟩) hne
 ·exact hc x hx y (.inr ⟨j, by omega, h1, h2⟩) hne
def Wlk (m : Mem) (M : Mem) (es : List (Int × Int)) (v : V) (l : List Nat) (G : Mem) : Prop := M = m ++ .mp es :: .cells true [[.mp (some m.length)]] :: .cells true [[v]] :: G ∧ Gw (m.length + 3) G v 1 (u64l l) ∧ MS es l
theorem Wlk.nus {m M G : Mem} {es : List (Int × Int)} {v : V} {l : List Nat} (h : Wlk m M es v l G) : Nus M v l := by
 obtain ⟨rfl, hG, _⟩ := h
 have := Gw.sl (G := []) (A := m ++ [.mp es, .cells true [[.mp (some m.length)]], .cells true [[v]]]) hG.cast
 refine Nus.of ?_
 simpa only [List.append_assoc, List.cons_append, List.nil_append, List.append_nil] using this
abbrev seeV (m : Mem) : V := .fn n_model_graph_reach_1 [] [.ptr (m.length + 1) 0 0, .ptr (m.length + 2) 0 0]
theorem see_w {m M G : Mem} {es : List (Int × Int)} {v : V} {l : List Nat} {a : Nat} (h : Wlk m M es v l G) (hl : l.length < 1000000) :
  C S n_model_graph_reach_1 [.int .u64 (a : Nat), .ptr (m.length + 1) 0 0, .ptr (m.length + 2) 0 0] M (fun _ M' => ∃ es' v' G', Wlk m M' es' v' (seeL l a) G' ∧ G.length ≤ G'.length ∧ (∀ j y, blkOf v ≠ some (m.length + 3 + j) → G[j]? = some y → G'[j]? = some y) ∧ (v' = v ∨ ∃ j, blkOf v' = some (m.length + 3 + j) ∧ G.length ≤ j)) := by
 obtain ⟨rfl, hG, hE⟩ := h
 refine (mark_spec hG hE hl).mono ?_
 rintro _ _ ⟨es', v', G', rfl, h1, h2, h3, h4, h5⟩
 exact ⟨es', v', G', ⟨rfl, h1, h2⟩, h3, h4, h5⟩
theorem refs_w {m M G : Mem} {es : List (Int × Int)} {v : V} {l : List Nat} {x : Nat} {aw uw sv : V} {va vm : Nat → V} {H : HeapA} (h : HpRd m aw uw sv va vm H) (hw : Wlk m M es v l G) (ha : x + 1 + H.a x % 256 ≤ H.na) (hu : unOk (H.a x)) (hna : H.na < 1000000) (hb : ∀ f, f ≤ H.a x % 256 → (seeR H.a x l f).length < 1000000) :
  C S n_heap_Refs [.agg (heapV H aw uw sv), .int .u64 (x : Nat), seeV m] M (fun _ M' => ∃ es' v' G', Wlk m M' es' v' (seeR H.a x l (H.a x % 256)) G') := by
 obtain ⟨rfl, hG, hE⟩ := hw
 obtain ⟨T, hT⟩ : ∃ T : Mem → Nat → Mem → Prop, T = fun I f M => ∃ es v G2, Wlk m M es v (seeR H.a x l f) G2 ∧ (∀ j y, I[j]? = some y → G2[G.length + j]? = some y) ∧ ∀ j, j < I.length → blkOf v ≠ some (m.length + 3 + (G.length + j)) := ⟨_, rfl⟩
 have R := Refs_spec (each := seeV m) (a := x) (T := T) (h.app (g := .mp es :: .cells true [[.mp (some m.length)]] :: .cells true [[v]] :: G)) ha hu hna rfl ?_ ?_ ?_ ?_ ?_
 ·refine C.mono R ?_
  rintro r M ⟨I, hM⟩
  rw [hT] at hM
  obtain ⟨es', v', G', h1, _⟩ := hM
  exact ⟨es', v', G', h1⟩
 ·intro I
  rw [hT]
  refine ⟨es, v, G ++ I, ⟨by simp only [List.append_assoc, List.cons_append], hG.app, hE⟩, fun j y hy => by rw [List.getElem?_append_right (by omega), Nat.add_sub_cancel_left]; exact hy, fun j hj e => ?_⟩
  rcases hG with ⟨rfl, _⟩ | ⟨j2, rfl, h2⟩
  ·cases e
  ·have := (List.getElem?_eq_some_iff.1 h2).1
   injection e with e; omega
 ·rintro I f M hM
  rw [hT] at hM
  obtain ⟨es', v', G', ⟨rfl, _, _⟩, h2, _⟩ := hM
  refine ⟨fun j y hy => ?_, h.a.app⟩
  have := h2 j y hy
  rw [List.length_append, show m.length + (Blk.mp es :: Blk.cells true [[V.mp (some m.length)]] :: Blk.cells true [[v]] :: G).length + j = m.length + (G.length + j + 3) by simp only [List.length_cons]; omega, List.getElem?_append_right (by omega), Nat.add_sub_cancel_left]
  exact this
 ·rintro I f M g' hM
  rw [hT] at hM ⊢
  obtain ⟨es', v', G', ⟨rfl, h1, h3⟩, h2, h4⟩ := hM
  exact ⟨es', v', G' ++ g', ⟨by simp only [List.append_assoc, List.cons_append], h1.app, h3⟩, fun j y hy => getElem?_grow (h2 j y hy), h4⟩
 ·rintro I f M hf hbit hM
  rw [hT] at hM ⊢
  have e : seeR H.a x l (f + 1) = seeR H.a x l f := if_neg (fun h => by rw [hbit] at h; cases h)
  dsimp only at hM ⊢
  rw [e]
  exact hM
 ·rintro I f M hf hbit hM
  rw [hT] at hM
  obtain ⟨es', v', G', h1, h2, h4⟩ := hM
  have e : seeR H.a x l (f + 1) = seeL (seeR H.a x l f) (H.a (x + 1 + f)) := if_pos hbit
  rw [hT]
  dsimp only
  rw [e]
  refine C.mono (see_w h1 (hb f (by omega))) ?_
  rintro r M2 ⟨es2, v2, G2, k1, k2, k3, k4⟩
  refine ⟨es2, v2, G2, k1, fun j y hy => ?_, fun j hj e => ?_⟩
  ·have := h2 j y hy
   exact k3 _ y (h4 j (List.getElem?_eq_some_iff.1 hy).1) this
  ·rcases k4 with rfl | ⟨j2, k5, k6⟩
   ·exact h4 j hj e
   ·rw [k5] at e
    injection e with e
    have := (List.getElem?_eq_some_iff.1 (h2 j I[j] (by simp [hj]))).1
    omega
theorem reach_spec {m : Mem} {P : Nat} {own : Bool} {aw uw sv ov kv vv rv : V} {va vm : Nat → V} {H : HeapA} {cs K W rs : List Nat} (h : HpRd m aw uw sv va vm H) (hP : m[P]? = some (.cells own [mgV (heapV H aw uw sv) ov kv vv]))
  (hcur : ∀ x, x ∈ cs → x + 1 + H.a x % 256 ≤ H.na ∧ unOk (H.a x)) (hc : ∀ x, x ∈ cs → ∀ b, nxtM H.a K W x b → b ≠ 0 → b ∈ cs) (hna : H.na < 1000000) (hcl : cs.length < 1000000)
  (hk : Nus m kv K) (hw : Nus m vv W) (hKW : K.length = W.length) (hKl : K.length < 1000000) (hrs : Nus m rv rs) (hrl : rs.length ≤ 17592186044416) (hd : ∀ i, i < rs.length → nx rs i = 0 ∨ nx rs i ∈ cs) (oc : ov.isCell = true) :
  C S n_model_graph_reach [.ptr P 0 0, rv] m (fun r m' => ∃ g L, m' = m ++ g ∧ Gw m.length g r 1 (u64l L) ∧ L.Pairwise (· < ·) ∧ L.length ≤ cs.length ∧ ∀ a, a ∈ L ↔ Rcb rs (nxtM H.a K W) a) := by
 have A := h.a.ar.2.1
 have B := h.u.ar.2.1
 have D := h.s.s.ar.2.1
 have A1 := hk.ar.2.1
 have A2 := hw.ar.2.1
 have A3 := hrs.ar
 have vm1 : ∀ x, (V.mp x).cells = [V.mp x] := fun _ => rfl
 have vm2 : ∀ x, (V.mp x).isCell = true := fun _ => rfl
 have hc' := PLift.up hc
 have hd' := PLift.up hd
 have hcur' := PLift.up hcur
 clear hc hd hcur
 refine fn rfl ?_
 refine range (α := List (Int × Int) × V × List Nat) rs.length (fun _ => [(0, .ptr P 0 0), (6, .ptr (m.length + 2) 0 0), (7, seeV m), (16, rv)])
  (fun k s M => ∃ G, Wlk m M s.1 s.2.1 s.2.2 G ∧ Wk rs cs (nxtM H.a K W) k 0 s.2.2) ([], .nils, []) ⟨[], ⟨rfl, .inl ⟨rfl, rfl⟩, MS.nil⟩, Wk.zero⟩ ?_ ?_
 ·rintro k ⟨es, v, l⟩ fr M hk F ⟨G, hW, hwk⟩
  dsimp only at hW hwk
  have hl := hwk.len
  have hwk' := PLift.up hwk
  have e : M = m ++ .mp es :: .cells true [[.mp (some m.length)]] :: .cells true [[v]] :: G := hW.1
  have A4 := (hrs.app (g := .mp es :: .cells true [[.mp (some m.length)]] :: .cells true [[v]] :: G)).ar
  have hW' := PLift.up hW
  clear hwk hW
  subst e
  refine am ?_
  refine (see_w hW'.down (by omega)).mono ?_
  rintro _ M2 ⟨es', v', G', h1, _⟩
  have h1' := PLift.up h1
  clear h1
  refine am ?_
  exact ⟨(es', v', seeL l (nx rs k)), byam, G', h1'.down, hwk'.down.root hk (hd'.down k hk)⟩
 ·rintro ⟨es, v, l⟩ fr M F ⟨G, hW, hwk⟩
  dsimp only at hW hwk
  have hW' := PLift.up hW
  have hwk' := PLift.up hwk
  clear hW hwk
  refine am ?_
  let I := fun (d : Nat) (fr : Frame) (M : Mem) => ∃ n es v l G, Wlk m M es v l G ∧ Wk rs cs (nxtM H.a K W) rs.length n l ∧ d = cs.length - n ∧ Has fr [(0, .ptr P 0 0), (6, .ptr (m.length + 2) 0 0), (7, seeV m), (10, .int .i64 (n : Nat))]
  refine W_loop I ?_ cs.length ⟨0, es, v, l, G, hW'.down, hwk'.down, rfl, byam⟩
  clear hW' hwk' F
  rintro d fr _ ⟨n, es, v, l, G, hW, hwk, rfl, F⟩
  have hle := hwk.len
  have hn := hwk.le
  have hV := hW.nus
  have hWe : M = M := rfl
  obtain ⟨rfl, hG, hE⟩ := hW
  have hW' := PLift.up (show Wlk m _ es v l G from ⟨rfl, hG, hE⟩)
  have hwk' := PLift.up hwk
  have n1 := hV.ar
  have w1 : IntKind.i64.wrap ((n : Int) + 1) = ((n + 1 : Nat) : Int) := by rw [wrap_i64] <;> omega
  clear hG hE hwk hV hWe
  by_cases hlt : n < l.length
  ·have c1 : ((n : Int) < (l.length : Int)) = True := eq_true (by omega)
   have hx := hwk'.down.rc _ (nx_mem hlt)
   have hbd := fun f i hf hi => hwk'.down.bound hlt hc'.down (f := f) (i := i) hf hi
   have hcu := hcur'.down _ hx.2.1
   have hnext := hwk'.down.next hlt hc'.down
   obtain ⟨x, ex⟩ : ∃ x, nx l n = x := ⟨_, rfl⟩
   rw [ex] at hbd hcu hnext
   have hbd' := PLift.up hbd
   have hcu' := PLift.up hcu
   have hnext' := PLift.up hnext
   clear hx hbd hcu hnext
   refine into ?_
   refine (refs_w (x := x) h hW'.down hcu'.down.1 hcu'.down.2 hna (fun f hf => by have := hbd'.down f 0 hf (Nat.zero_le _); simp only [seeK] at this; omega)).mono ?_
   rintro _ M2 ⟨es2, v2, G2, h2⟩
   obtain ⟨l1, el1⟩ : ∃ l1, seeR H.a x l (H.a x % 256) = l1 := ⟨_, rfl⟩
   rw [el1] at h2
   have hb2 := fun i hi => hbd'.down (H.a x % 256) i (Nat.le_refl _) hi
   have hnx := hnext'.down
   rw [el1] at hb2 hnx
   have hb2' := PLift.up hb2
   have hnx' := PLift.up hnx
   have h2' := PLift.up h2
   have e2 : M2 = m ++ .mp es2 :: .cells true [[.mp (some m.length)]] :: .cells true [[v2]] :: G2 := h2.1
   have B1 := (hk.app (g := .mp es2 :: .cells true [[.mp (some m.length)]] :: .cells true [[v2]] :: G2)).ar
   clear h2 hb2 hnx el1 hW' n1 hbd' hnext'
   subst e2
   refine am ?_
   refine range (α := List (Int × Int) × V × List Nat) K.length (fun _ => [(0, .ptr P 0 0), (6, .ptr (m.length + 2) 0 0), (7, seeV m), (10, .int .i64 (n : Nat)), (11, .int .u64 (x : Nat)), (46, kv)])
    (fun i s M => ∃ G, Wlk m M s.1 s.2.1 s.2.2 G ∧ s.2.2 = seeK K W x l1 i) (es2, v2, l1) ⟨G2, h2'.down, rfl⟩ ?_ ?_
   ·rintro i ⟨es3, v3, l3⟩ fr M3 hi F ⟨G3, h3, e3⟩
    dsimp only at h3 e3
    have hi2 : i < W.length := by omega
    have hl3 : l3.length < 1000000 := by rw [e3]; have := hb2'.down i (by omega); omega
    have h3' := PLift.up h3
    have em : M3 = m ++ .mp es3 :: .cells true [[.mp (some m.length)]] :: .cells true [[v3]] :: G3 := h3.1
    have B2 := (hk.app (g := .mp es3 :: .cells true [[.mp (some m.length)]] :: .cells true [[v3]] :: G3)).ar
    have B3 := (hw.app (g := .mp es3 :: .cells true [[.mp (some m.length)]] :: .cells true [[v3]] :: G3)).ar
    have e3' := PLift.up e3
    clear h3 e3
    subst em
    by_cases hx : nx K i = x
    ·have cx : (((nx K i : Nat) : Int) = (x : Int)) = True := eq_true (by omega)
     have hs : seeK K W x l1 (i + 1) = seeL (seeK K W x l1 i) (nx W i) := if_pos hx
     have hs' := PLift.up hs
     clear hx hs
     refine am ?_
     refine (see_w h3'.down (by omega)).mono ?_
     rintro _ M4 ⟨es4, v4, G4, h4, _⟩
     have h4' := PLift.up h4
     clear h4
     refine am ?_
     refine ⟨(es4, v4, seeL l3 (nx W i)), byam, G4, h4'.down, ?_⟩
     rw [hs'.down, ← e3'.down]
    ·have cx : (((nx K i : Nat) : Int) = (x : Int)) = False := eq_false (by omega)
     have hs : seeK K W x l1 (i + 1) = seeK K W x l1 i := if_neg hx
     have hs' := PLift.up hs
     clear hx hs
     refine am ?_
     refine ⟨(es3, v3, l3), byam, G3, h3'.down, ?_⟩
     rw [hs'.down, ← e3'.down]
   ·rintro ⟨es3, v3, l3⟩ fr M3 F ⟨G3, h3, e3⟩
    dsimp only at h3 e3
    have h3' := PLift.up h3
    have e3' := PLift.up e3
    clear h3 e3
    refine am ?_
    refine ⟨_, ?_, n + 1, es3, v3, l3, G3, h3'.down, ?_, rfl, byam⟩
    ·omega
    ·rw [e3'.down]; exact hnx'.down
  ·have hne : n = l.length := by omega
   subst hne
   have c1 : ((l.length : Int) < (l.length : Int)) = False := eq_false (by omega)
   have hs := srtN_all hwk'.down.nd
   have hdone := hwk'.down.done
   have hs' := PLift.up hs
   have hdone' := PLift.up hdone
   clear hs hdone hlt
   rcases hW'.down.2.1 with ⟨rfl, hnil⟩ | ⟨j, rfl, hj⟩
   ·have hl0 : l = [] := by cases l with | nil => rfl | cons a l => cases hnil
    subst hl0
    clear hnil n1
    refine into ?_
    refine SortU_nil.mono ?_
    rintro _ _ ⟨rfl, g, rfl⟩
    refine am ?_
    exact ⟨_, [], rfl, .inl ⟨rfl, rfl⟩, List.Pairwise.nil, Nat.zero_le _, hdone'.down⟩
   ·have hul : (u64l l).length = l.length := by simp
    rw [hul] at n1 hW' ⊢
    have hj' := PLift.up hj
    clear hj hul
    have hlt2 := (List.getElem?_eq_some_iff.1 hj'.down).1
    refine into ?_
    refine (SortU_spec (b := m.length + 3 + j) ?_ (by omega)).mono ?_
    ·rw [show m.length + 3 + j = m.length + (j + 3) by omega, get_off]; exact hj'.down
    rintro _ _ ⟨rfl, g, rfl⟩
    have e3 : (m ++ .mp es :: .cells true [[.mp (some m.length)]] :: .cells true [[.slice (m.length + 3 + j) 0 l.length l.length false 1]] :: G).set (m.length + 3 + j) (.cells true (u64l (srtN l))) = m ++ .mp es :: .cells true [[.mp (some m.length)]] :: .cells true [[.slice (m.length + 3 + j) 0 l.length l.length false 1]] :: G.set j (.cells true (u64l (srtN l))) := by
     rw [show m.length + 3 + j = m.length + (j + 3) by omega, set_off]; rfl
    rw [e3]
    clear e3 n1
    refine am ?_
    refine ⟨_, srtN l, rfl, .inr ⟨j + 3, ?_, ?_⟩, hs'.down.1, by rw [hs'.down.2.2]; exact hle, fun a => (hs'.down.2.1 a).trans (hdone'.down a)⟩
    ·rw [List.length_map, hs'.down.2.2, show m.length + 3 + j = m.length + (j + 3) by omega]
    ·show (G.set j (.cells true (u64l (srtN l))) ++ g)[j]? = _
     rw [List.getElem?_append_left (by simpa using hlt2)]
     simp [hlt2]
end Go.AM.G
