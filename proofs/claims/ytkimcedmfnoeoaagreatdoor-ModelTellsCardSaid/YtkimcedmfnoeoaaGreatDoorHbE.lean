/- The law's own question lives() is answered by true: the walk over what is told at each call. -/
import Derived.Test.YtkimcedmfnoeoaaGreatDoorHbC
import Derived.Test.YtkimcedmfnoeoaaGreatDoorHbEa
set_option linter.unusedVariables false
set_option linter.unusedSimpArgs false
set_option maxRecDepth 1000000
namespace Go.AM.G
open Go Go.AM Go.Proofs
theorem tObj_fr {call : CallF} (hc : FrameC call) {a : List V} {m m' : Mem} {v : V} {id : Nat} {blk : Blk} (hd : m[id]? = some .dead) (e : tObj call a m = some (v, m')) : m'[id]? = some .dead ∧ tObj call a (m.set id blk) = some (v, m'.set id blk) := by
 unfold tObj at e ⊢
 split at e
 case isFalse => cases e
 rename_i hi
 rw [if_pos hi]
 cases hcall : call n_heap_open a m with
 | none => rw [hcall] at e; cases e
 | some y =>
  obtain ⟨v1, m1⟩ := y
  rw [hcall] at e
  obtain ⟨hd1, hc1⟩ := hc _ _ _ _ _ id blk hd hcall
  rw [hc1]
  split at e
  ·rename_i k m2 heq
   simp only [Option.some.injEq, Prod.mk.injEq] at heq
   obtain ⟨rfl, rfl⟩ := heq
   split at e
   ·cases e
   rename_i hk
   cases e
   exact ⟨hd1, by simp only [if_neg hk]⟩
  ·rename_i P m2 heq
   simp only [Option.some.injEq, Prod.mk.injEq] at heq
   obtain ⟨rfl, rfl⟩ := heq
   split at e
   case h_2 => cases e
   rename_i own s0 s1 s2 s3 ov hP
   split at e
   case h_2 => cases e
   rename_i els hels
   split at e
   case isFalse => cases e
   rename_i hall
   simp only [(get_fr (blk := blk) hd1 hP).2, elems_fr (blk := blk) hd1 hels, if_pos hall]
   cases hcv : curV els with
   | nil =>
    rw [hcv] at e
    cases e
    exact ⟨hd1, rfl⟩
   | cons x r =>
    rw [hcv] at e
    cases e
    have := push_fr (blk := blk) hd1 [.cells true (x :: r)]
    exact ⟨this.1, by simp only [List.length_set, this.2]⟩
  ·cases e
theorem Xfr0 : ToldFr X0 := by
 intro f t h call hc a m v m' id blk hd e
 unfold X0 at h
 split at h
 ·cases h
  dsimp only at e ⊢
  obtain ⟨n, rfl, h0, h1, rfl, rfl⟩ := tLen_some e
  exact ⟨hd, by simp only [tLen]; rw [if_pos ⟨h0, h1⟩]⟩
 split at h
 ·cases h
  dsimp only at e ⊢
  rcases E.tSort_some e with ⟨rfl, rfl, rfl⟩ | ⟨b, cap, ex, g, els, d, rfl, hb, rfl, h3, h4, rfl, rfl⟩
  ·exact ⟨hd, rfl⟩
  have hne : b ≠ id := by
   rintro rfl
   rw [hd] at hb
   cases hb
  refine ⟨by rw [List.getElem?_set_ne hne]; exact hd, ?_⟩
  rw [E.tSort_eq (by rw [List.getElem?_set_ne (Ne.symm hne)]; exact hb) h3 h4, List.set_comm _ _ hne]
 split at h
 ·cases h
  exact tObj_fr hc hd e
 split at h
 ·cases h
  dsimp only at e ⊢
  obtain ⟨n, rfl, h0, h1, rfl, rfl⟩ := tTz_some e
  exact ⟨hd, by simp only [tTz]; rw [if_pos ⟨h0, h1⟩]⟩
 ·cases h
theorem Xfr : ToldFr X := by
 intro f t h call hc a m v m' id blk hd e
 unfold X at h
 split at h
 ·cases h
  dsimp only at e ⊢
  cases a with
  | nil => cases e; exact ⟨hd, rfl⟩
  | cons x y => cases e
 ·exact Xfr0 f t h call hc a m v m' id blk hd e
end Go.AM.G
namespace Go.AM.G.Lv
open Go Go.AM Go.AM.G Go.Proofs
def r9 : V := .bool true
def d9 : Mem := rp 682 .dead ++ [.cells true ([[.int .u64 16], [.int .u64 18]])] ++ rp 128 .dead ++ [.cells true ([[.int .u64 16], [.int .u64 18]])] ++ rp 12 .dead ++ [.cells true ([[.int .u64 20, .int .u8 1, .int .u64 0]])] ++ rp 23 .dead ++ [.cells true ([[.int .u64 16], [.int .u64 18], [.int .u64 20]])] ++ rp 19 .dead ++ [.cells true ([[.int .u64 0, .int .u8 0, .int .u64 0]])] ++ rp 102 .dead
def r10 : V := .bool false
def d10 : Mem := rp 973 .dead
def fv : V := .agg [.slice 811 0 2 2 false 1, .slice 848 0 3 3 false 1, .slice 824 0 1 1 false 3, .slice 868 0 0 1 false 3]
theorem s9 : stageB (callN (fun f => tab.lookup f) X0 300 n_model_Alike [fv, fv] d8) r9 d8 d9 = true := by kernel_rfl
theorem s10 : stageB (callN (fun f => tab.lookup f) X0 300 n_model_Alike [fv, .agg [.nils, .nils, .nils, .nils]] d9) r10 d9 d10 = true := by kernel_rfl
def Sv : Sys := ⟨fun f => tab.lookup f, X0, Xmono0⟩
structure Box (d : Mem) (M : Mem) (k : Nat) (c : List V) : Prop where
 dl : Dl d M
 dk : d[k]? = some .dead
 at_ : M[k]? = some (.cells true [c])
theorem st {f : Nat} {args : List V} {d dd m : Mem} {r : V} (h : stageB (callN (fun f => tab.lookup f) X0 300 f args d) r d dd = true) (hd : Dl d m) :
  C Sv f args m (fun v m' => v = r ∧ Dl dd m' ∧ ∀ k : Nat, d[k]? = some .dead → m'[k]? = m[k]?) := stage (P := Tryz.prog) (F := fun f => tab.lookup f) tableOk Xfr0 rfl (n := 300) (S := Sv) h hd
theorem Box.st {f : Nat} {args : List V} {d dd m : Mem} {r : V} {k : Nat} {c : List V} (b : Box d m k c) (h : stageB (callN (fun f => tab.lookup f) X0 300 f args d) r d dd = true) (hk : dd[k]? = some .dead) :
  C Sv f args m (fun v m' => v = r ∧ Box dd m' k c) := (Lv.st h b.dl).mono fun _ _ ⟨e, h1, h2⟩ => ⟨e, h1, hk, (h2 k b.dk).trans b.at_⟩
theorem Box.set {d m : Mem} {k : Nat} {c : List V} (b : Box d m k c) (c' : List V) : Box d (m.set k (.cells true [c'])) k c' := ⟨b.dl.set b.dk _, b.dk, List.getElem?_set_self (List.getElem?_eq_some_iff.1 b.at_).1⟩
theorem Box.push {d m : Mem} {k : Nat} {c : List V} (b : Box d m k c) (x : Blk) : Box (d ++ [.dead]) (m ++ [x]) k c := ⟨b.dl.push x, by rw [List.getElem?_append_left (List.getElem?_eq_some_iff.1 b.dk).1]; exact b.dk, by rw [List.getElem?_append_left (List.getElem?_eq_some_iff.1 b.at_).1]; exact b.at_⟩
theorem Box.same {d m : Mem} {k : Nat} {c : List V} (b : Box d m k c) (x : Blk) : Box (d ++ [x]) (m ++ [x]) k c := ⟨b.dl.same x, by rw [List.getElem?_append_left (List.getElem?_eq_some_iff.1 b.dk).1]; exact b.dk, by rw [List.getElem?_append_left (List.getElem?_eq_some_iff.1 b.at_).1]; exact b.at_⟩
theorem Box.len {d m : Mem} {k n : Nat} {c : List V} (b : Box d m k c) (e : d.length = n) : m.length = n := b.dl.1.symm.trans e
theorem Box.gs {d m : Mem} {k : Nat} {c : List V} (b : Box d m k c) (x : Blk) : (m.set k x)[k]? = some x := List.getElem?_set_self (List.getElem?_eq_some_iff.1 b.at_).1
theorem Box.same2 {d m : Mem} {k : Nat} {c : List V} (b : Box d m k c) (x y : Blk) : Box (d ++ [x] ++ [y]) (m ++ [x, y]) k c := by
 have := (b.same x).same y
 rwa [List.append_assoc m] at this
theorem Box.psame {d m : Mem} {k : Nat} {c : List V} (b : Box d m k c) (x y : Blk) : Box (d ++ [.dead] ++ [y]) (m ++ [x, y]) k c := by
 have := (b.push x).same y
 rwa [List.append_assoc m] at this
theorem lives_C : C Sv n_law11_lives [] [] (fun r _ => r = .bool true) := by
 refine fn rfl ?_
 refine (st s1 Dl.nil).mono ?_
 rintro _ M ⟨rfl, D, -⟩
 unfold r1
 refine am ?_
 have hl : M.length = 32 := D.1.symm
 rw [hl]
 have B : Box (d1 ++ [.dead]) (M ++ [.cells true [[.slice 2 0 64 64 true 1, .int .i64 4, .slice 29 0 1 1 false 1, .nils]]]) 32 [.slice 2 0 64 64 true 1, .int .i64 4, .slice 29 0 1 1 false 1, .nils] := ⟨D.push _, rfl, by rw [← hl]; exact List.getElem?_concat_length⟩
 refine (B.st s2 rfl).mono ?_
 clear B D hl M
 rintro _ M ⟨rfl, B⟩
 unfold r2
 have b := B.at_
 have g := B.gs
 refine am ?_
 refine ((B.set _).st s3 rfl).mono ?_
 clear b g B M
 rintro _ M ⟨rfl, B⟩
 unfold r3
 have b := B.at_
 have g := B.gs
 refine am ?_
 refine ((B.set _).st s4 rfl).mono ?_
 clear b g B M
 rintro _ M ⟨rfl, B⟩
 unfold r4
 have b := B.at_
 have g := B.gs
 refine am ?_
 refine ((B.set _).st s5 rfl).mono ?_
 clear b g B M
 rintro _ M ⟨rfl, B⟩
 unfold r5
 have b := B.at_
 have g := B.gs
 refine am ?_
 rw [show ∀ c, (M.set 32 (.cells true [c])).length = 569 from fun c => (B.set c).len rfl]
 refine (((B.set _).same _).st s6 rfl).mono ?_
 clear b g B M
 rintro _ M ⟨rfl, B⟩
 unfold r6
 have b := B.at_
 refine am ?_
 rw [show M.length = 691 from B.len rfl]
 refine ((B.same2 _ _).st s7 rfl).mono ?_
 clear b B M
 rintro _ M ⟨rfl, B⟩
 unfold r7
 have b := B.at_
 refine am ?_
 have l : M.length = 870 := B.len rfl
 rw [l]
 have C8 : Box (d7 ++ [.dead] ++ [.cells true [[.int .u64 17]]]) (M ++ [.cells true [[.slice 811 0 2 2 false 1, .slice 848 0 3 3 false 1, .slice 824 0 1 1 false 3, .slice 868 0 0 1 false 3]], .cells true [[.int .u64 17]]]) 870 [.slice 811 0 2 2 false 1, .slice 848 0 3 3 false 1, .slice 824 0 1 1 false 3, .slice 868 0 0 1 false 3] :=
  ⟨(B.psame _ _).dl, rfl, by rw [← l, List.getElem?_append_right (Nat.le_refl _), Nat.sub_self]; rfl⟩
 refine (C8.st s8 rfl).mono ?_
 clear C8 b B l M
 rintro _ M ⟨rfl, B⟩
 unfold r8
 have b := B.at_
 have c : M[682]? = some (.cells true [[.int .u64 16], [.int .u64 18]]) := B.dl.get rfl (by intro h; cases h)
 have i0 : asIndex 1 (.slice 682 0 2 2 false 1) (.int .i64 0) = some (.ptr 682 0 0) := rfl
 have i1 : asIndex 1 (.slice 682 0 2 2 false 1) (.int .i64 1) = some (.ptr 682 1 0) := rfl
 refine am ?_
 refine (B.st s9 rfl).mono ?_
 clear b c B i0 i1 M
 rintro _ M ⟨rfl, B⟩
 unfold r9
 have b := B.at_
 refine am ?_
 refine (B.st s10 rfl).mono ?_
 clear b B M
 rintro _ M ⟨rfl, B⟩
 unfold r10
 exact byam
end Go.AM.G.Lv
