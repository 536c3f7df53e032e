/- law11.ModelNone, on the abstract machine. -/
import Derived.Test.YtkimcedmfnoeoaaGreatDoorHmG
import Derived.Test.YtkimcedmfnoeoaaGreatDoorHpB
set_option linter.unusedVariables false
set_option linter.unusedSimpArgs false
set_option maxRecDepth 100000
namespace Go.AM.G
open Go Go.AM
theorem Rcb.sub {rt rt' : List Nat} {nxt : Nat → Nat → Prop} {a : Nat} (h : ∀ x, x ∈ rt → x ∈ rt') (k : Rcb rt nxt a) : Rcb rt' nxt a := by
 induction k with
 | root h1 h2 => exact .root (h _ h1) h2
 | step _ h2 h3 ih => exact .step ih h2 h3
theorem mOk.sub {cs rs rs' K W : List Nat} (h : ∀ x, x ∈ rs' → x ∈ rs) (k : mOk cs rs K W) : mOk cs rs' K W := fun a ha => by
 rcases List.mem_append.1 ha with ha | ha
 ·exact k a (List.mem_append_left _ (h a ha))
 ·exact k a (List.mem_append_right _ ha)
end Go.AM.G
set_option maxRecDepth 100000
namespace Go.AM.G
open Go Go.AM
structure Spc where
 ad : Nat
 kd : Nat
 tg : Nat
deriving DecidableEq, Inhabited
def spcV (s : Spc) : List V := [.int .u64 (s.ad : Nat), .int .u8 (s.kd : Nat), .int .u64 (s.tg : Nat)]
theorem SameW_spec {m : Mem} {v u : V} {n k : Nat} {w x : Nat → Nat} (hv : Rd m v 1 n (u64s w)) (hu : Rd m u 1 k (u64s x)) (hn : n < 4611686018427387904) : C S n_ref09_Same [v, u] m (fun r m' => r = .bool (decide (n = k ∧ ∀ i, i < n → w i = x i)) ∧ m' = m) := by
 have A := hv.ar
 have B := hu.ar
 by_cases h : n = k
 case neg =>
  have h1 : ((n : Int) = (k : Int)) = False := eq_false (by omega)
  have h2 : (n = k ∧ ∀ i, i < n → w i = x i) = False := eq_false fun e => h e.1
  refine fn rfl ?_
  simp
 subst h
 have h1 : ((n : Int) = (n : Int)) = True := eq_true rfl
 refine fn rfl ?_
 refine range (α := Unit) n (fun _ => [(0, v), (1, u)]) (fun j _ M => M = m ∧ ∀ i, i < j → w i = x i) () ⟨rfl, fun i hi => absurd hi (Nat.not_lt_zero _)⟩ ?_ ?_
 ·rintro j ⟨⟩ fr _ hj F ⟨rfl, hj2⟩
  by_cases e : w j = x j
  ·have e' : ((w j : Int) = (x j : Int)) = True := eq_true (by omega)
   refine am ?_
   exact ⟨(), byam, rfl, fun i hi => by by_cases h : i = j; exact h ▸ e; exact hj2 i (by omega)⟩
  ·have e' : ((w j : Int) = (x j : Int)) = False := eq_false (by omega)
   refine am ?_
   exact (decide_eq_false fun h => e (h j hj)).symm
 ·rintro ⟨⟩ fr _ F ⟨rfl, hj2⟩
  have e2 : id (∀ i, i < n → w i = x i) := hj2
  clear hj2
  refine am ?_
  exact (decide_eq_true (show ∀ i, i < n → w i = x i from e2)).symm
theorem EqualS_spec {m : Mem} {v u : V} {n k : Nat} {w x : Nat → Spc} (hv : Rd m v 3 n (fun i => spcV (w i))) (hu : Rd m u 3 k (fun i => spcV (x i))) (hn : n < 4611686018427387904) : C S n_slices_Equal_Special [v, u] m (fun r m' => r = .bool (decide (n = k ∧ ∀ i, i < n → w i = x i)) ∧ m' = m) := by
 have A := hv.ar
 have B := hu.ar
 by_cases h : n = k
 case neg =>
  have h1 : ((n : Int) = (k : Int)) = False := eq_false (by omega)
  have h2 : (n = k ∧ ∀ i, i < n → w i = x i) = False := eq_false fun e => h e.1
  refine fn rfl ?_
  simp
 subst h
 have h1 : ((n : Int) = (n : Int)) = True := eq_true rfl
 refine fn rfl ?_
 refine range (α := Unit) n (fun _ => [(0, v), (1, u)]) (fun j _ M => M = m ∧ ∀ i, i < j → w i = x i) () ⟨rfl, fun i hi => absurd hi (Nat.not_lt_zero _)⟩ ?_ ?_
 ·rintro j ⟨⟩ fr _ hj F ⟨rfl, hj2⟩
  have s1 : spcV (w j) = [.int .u64 ((w j).ad : Nat), .int .u8 ((w j).kd : Nat), .int .u64 ((w j).tg : Nat)] := rfl
  have s2 : spcV (x j) = [.int .u64 ((x j).ad : Nat), .int .u8 ((x j).kd : Nat), .int .u64 ((x j).tg : Nat)] := rfl
  by_cases e : w j = x j
  ·have e' : (((w j).ad : Int) = ((x j).ad : Int)) = True := eq_true (by rw [e])
   have e'2 : (((w j).kd : Int) = ((x j).kd : Int)) = True := eq_true (by rw [e])
   have e'3 : (((w j).tg : Int) = ((x j).tg : Int)) = True := eq_true (by rw [e])
   have e1 := PLift.up e
   clear e
   refine am ?_
   exact ⟨(), byam, rfl, fun i hi => by by_cases h : i = j; exact h ▸ e1.down; exact hj2 i (by omega)⟩
  ·have e3 : ¬ ((w j).ad = (x j).ad ∧ (w j).kd = (x j).kd ∧ (w j).tg = (x j).tg) := fun h => e (by rcases h with ⟨a, b, c⟩; cases hw : w j; cases hx : x j; rw [hw, hx] at a b c; simp_all)
   have e0 := PLift.up e
   have e5 := PLift.up e3
   have bf : ∀ b, (false && b) = false := fun _ => rfl
   clear e e3
   by_cases a1 : ((w j).ad : Int) = ((x j).ad : Int)
   ·have a1' := eq_true a1
    clear a1
    by_cases a2 : ((w j).kd : Int) = ((x j).kd : Int)
    ·have a2' := eq_true a2
     clear a2
     have a3 : (((w j).tg : Int) = ((x j).tg : Int)) = False := eq_false fun a => e5.down ⟨Int.natCast_inj.1 (a1' ▸ trivial), Int.natCast_inj.1 (a2' ▸ trivial), Int.natCast_inj.1 a⟩
     refine am ?_
     exact (decide_eq_false (fun h : ∀ i, i < n → w i = x i => e0.down (h j hj))).symm
    ·have a2' := eq_false a2
     clear a2
     refine am ?_
     exact (decide_eq_false (fun h : ∀ i, i < n → w i = x i => e0.down (h j hj))).symm
   ·have a1' := eq_false a1
    clear a1
    refine am ?_
    exact (decide_eq_false (fun h : ∀ i, i < n → w i = x i => e0.down (h j hj))).symm
 ·rintro ⟨⟩ fr _ F ⟨rfl, hj2⟩
  have e2 : id (∀ i, i < n → w i = x i) := hj2
  clear hj2
  refine am ?_
  exact (decide_eq_true (show ∀ i, i < n → w i = x i from e2)).symm
theorem SameS_spec {m : Mem} {v u : V} {n k : Nat} {w x : Nat → Spc} (hv : Rd m v 3 n (fun i => spcV (w i))) (hu : Rd m u 3 k (fun i => spcV (x i))) (hn : n < 4611686018427387904) : C S n_ref08_Same [v, u] m (fun r m' => r = .bool (decide (n = k ∧ ∀ i, i < n → w i = x i)) ∧ m' = m) := by
 have A := hv.ar
 have B := hu.ar
 by_cases h : n = k
 case neg =>
  have h1 : ((n : Int) = (k : Int)) = False := eq_false (by omega)
  have h2 : (n = k ∧ ∀ i, i < n → w i = x i) = False := eq_false fun e => h e.1
  refine fn rfl ?_
  simp
 subst h
 have h1 : ((n : Int) = (n : Int)) = True := eq_true rfl
 refine fn rfl ?_
 refine range (α := Unit) n (fun _ => [(0, v), (1, u)]) (fun j _ M => M = m ∧ ∀ i, i < j → w i = x i) () ⟨rfl, fun i hi => absurd hi (Nat.not_lt_zero _)⟩ ?_ ?_
 ·rintro j ⟨⟩ fr _ hj F ⟨rfl, hj2⟩
  have s1 : spcV (w j) = [.int .u64 ((w j).ad : Nat), .int .u8 ((w j).kd : Nat), .int .u64 ((w j).tg : Nat)] := rfl
  have s2 : spcV (x j) = [.int .u64 ((x j).ad : Nat), .int .u8 ((x j).kd : Nat), .int .u64 ((x j).tg : Nat)] := rfl
  by_cases e : w j = x j
  ·have e' : (((w j).ad : Int) = ((x j).ad : Int)) = True := eq_true (by rw [e])
   have e'2 : (((w j).kd : Int) = ((x j).kd : Int)) = True := eq_true (by rw [e])
   have e'3 : (((w j).tg : Int) = ((x j).tg : Int)) = True := eq_true (by rw [e])
   have e1 := PLift.up e
   clear e
   refine am ?_
   exact ⟨(), byam, rfl, fun i hi => by by_cases h : i = j; exact h ▸ e1.down; exact hj2 i (by omega)⟩
  ·have e3 : ¬ ((w j).ad = (x j).ad ∧ (w j).kd = (x j).kd ∧ (w j).tg = (x j).tg) := fun h => e (by rcases h with ⟨a, b, c⟩; cases hw : w j; cases hx : x j; rw [hw, hx] at a b c; simp_all)
   have e0 := PLift.up e
   have e5 := PLift.up e3
   have bf : ∀ b, (false && b) = false := fun _ => rfl
   clear e e3
   by_cases a1 : ((w j).ad : Int) = ((x j).ad : Int)
   ·have a1' := eq_true a1
    clear a1
    by_cases a2 : ((w j).kd : Int) = ((x j).kd : Int)
    ·have a2' := eq_true a2
     clear a2
     have a3 : (((w j).tg : Int) = ((x j).tg : Int)) = False := eq_false fun a => e5.down ⟨Int.natCast_inj.1 (a1' ▸ trivial), Int.natCast_inj.1 (a2' ▸ trivial), Int.natCast_inj.1 a⟩
     refine am ?_
     exact (decide_eq_false (fun h : ∀ i, i < n → w i = x i => e0.down (h j hj))).symm
    ·have a2' := eq_false a2
     clear a2
     refine am ?_
     exact (decide_eq_false (fun h : ∀ i, i < n → w i = x i => e0.down (h j hj))).symm
   ·have a1' := eq_false a1
    clear a1
    refine am ?_
    exact (decide_eq_false (fun h : ∀ i, i < n → w i = x i => e0.down (h j hj))).symm
 ·rintro ⟨⟩ fr _ F ⟨rfl, hj2⟩
  have e2 : id (∀ i, i < n → w i = x i) := hj2
  clear hj2
  refine am ?_
  exact (decide_eq_true (show ∀ i, i < n → w i = x i from e2)).symm
structure FtA where
 ln : Nat
 lw : Nat → Nat
 kn : Nat
 kw : Nat → Nat
 fn : Nat
 fs : Nat → Spc
 cn : Nat
 cs : Nat → Spc
structure FtRd (m : Mem) (l k f c : V) (x : FtA) : Prop where
 l : Rd m l 1 x.ln (u64s x.lw)
 k : Rd m k 1 x.kn (u64s x.kw)
 f : Rd m f 3 x.fn (fun i => spcV (x.fs i))
 c : Rd m c 3 x.cn (fun i => spcV (x.cs i))
 nl : x.ln < 17592186044417
 nk : x.kn < 17592186044417
 nf : x.fn < 17592186044417
 nc : x.cn < 17592186044417
theorem FtRd.app {m g : Mem} {l k f c : V} {x : FtA} (h : FtRd m l k f c x) : FtRd (m ++ g) l k f c x := ⟨h.l.app, h.k.app, h.f.app, h.c.app, h.nl, h.nk, h.nf, h.nc⟩
def FtA.same (x y : FtA) : Prop := (x.ln = y.ln ∧ ∀ i, i < x.ln → x.lw i = y.lw i) ∧ (x.kn = y.kn ∧ ∀ i, i < x.kn → x.kw i = y.kw i) ∧ (x.fn = y.fn ∧ ∀ i, i < x.fn → x.fs i = y.fs i) ∧ (x.cn = y.cn ∧ ∀ i, i < x.cn → x.cs i = y.cs i)
open Classical in
theorem Alike_spec {m : Mem} {l k f c l' k' f' c' : V} {x y : FtA} (hx : FtRd m l k f c x) (hy : FtRd m l' k' f' c' y) : C S n_model_Alike [.agg [l, k, f, c], .agg [l', k', f', c']] m (fun r m' => r = .bool (decide (x.same y)) ∧ Grow m m') := by
 have hl := hx.l.ar
 have hk := hx.k.ar
 have hf := hx.f.ar
 have hc := hx.c.ar
 have hl' := hy.l.ar
 have hk' := hy.k.ar
 have hf' := hy.f.ar
 have hc' := hy.c.ar
 have X := PLift.up hx
 have Y := PLift.up hy
 refine fn rfl ?_
 refine am ?_
 refine (Equal_spec X.down.l.app Y.down.l.app (by have := X.down.nl; omega)).mono ?_
 rintro _ _ ⟨rfl, rfl⟩
 by_cases h0 : (x.ln = y.ln ∧ ∀ i, i < x.ln → x.lw i = y.lw i)
 case neg =>
  rw [decide_eq_false h0]
  have H := PLift.up h0
  clear h0
  have no : decide (x.same y) = false := decide_eq_false fun h => H.down h.1
  refine am ?_
  exact ⟨_, rfl⟩
 rw [decide_eq_true h0]
 replace h0 := PLift.up h0
 refine am ?_
 refine (Equal_spec X.down.k.app Y.down.k.app (by have := X.down.nk; omega)).mono ?_
 rintro _ _ ⟨rfl, rfl⟩
 by_cases h1 : (x.kn = y.kn ∧ ∀ i, i < x.kn → x.kw i = y.kw i)
 case neg =>
  rw [decide_eq_false h1]
  have H := PLift.up h1
  clear h1
  have no : decide (x.same y) = false := decide_eq_false fun h => H.down h.2.1
  refine am ?_
  exact ⟨_, rfl⟩
 rw [decide_eq_true h1]
 replace h1 := PLift.up h1
 refine am ?_
 refine (EqualS_spec X.down.f.app Y.down.f.app (by have := X.down.nf; omega)).mono ?_
 rintro _ _ ⟨rfl, rfl⟩
 by_cases h2 : (x.fn = y.fn ∧ ∀ i, i < x.fn → x.fs i = y.fs i)
 case neg =>
  rw [decide_eq_false h2]
  have H := PLift.up h2
  clear h2
  have no : decide (x.same y) = false := decide_eq_false fun h => H.down h.2.2.1
  refine am ?_
  exact ⟨_, rfl⟩
 rw [decide_eq_true h2]
 replace h2 := PLift.up h2
 refine am ?_
 refine (EqualS_spec X.down.c.app Y.down.c.app (by have := X.down.nc; omega)).mono ?_
 rintro _ _ ⟨rfl, rfl⟩
 by_cases h3 : (x.cn = y.cn ∧ ∀ i, i < x.cn → x.cs i = y.cs i)
 case neg =>
  rw [decide_eq_false h3]
  have H := PLift.up h3
  clear h3
  have no : decide (x.same y) = false := decide_eq_false fun h => H.down h.2.2.2
  refine am ?_
  exact ⟨_, rfl⟩
 rw [decide_eq_true h3]
 replace h3 := PLift.up h3
 have yes : decide (x.same y) = true := decide_eq_true ⟨h0.down, h1.down, h2.down, h3.down⟩
 refine am ?_
 exact ⟨_, rfl⟩
open Classical in
theorem RefAlike_spec {m : Mem} {l k f c l' k' f' c' : V} {x y : FtA} (hx : FtRd m l k f c x) (hy : FtRd m l' k' f' c' y) : C S n_ref11_Alike [.agg [l, k, f, c], .agg [l', k', f', c']] m (fun r m' => r = .bool (decide (x.same y)) ∧ Grow m m') := by
 have hl := hx.l.ar
 have hk := hx.k.ar
 have hf := hx.f.ar
 have hc := hx.c.ar
 have hl' := hy.l.ar
 have hk' := hy.k.ar
 have hf' := hy.f.ar
 have hc' := hy.c.ar
 have X := PLift.up hx
 have Y := PLift.up hy
 refine fn rfl ?_
 refine am ?_
 refine (SameW_spec X.down.l.app Y.down.l.app (by have := X.down.nl; omega)).mono ?_
 rintro _ _ ⟨rfl, rfl⟩
 by_cases h0 : (x.ln = y.ln ∧ ∀ i, i < x.ln → x.lw i = y.lw i)
 case neg =>
  rw [decide_eq_false h0]
  have H := PLift.up h0
  clear h0
  have no : decide (x.same y) = false := decide_eq_false fun h => H.down h.1
  refine am ?_
  exact ⟨_, rfl⟩
 rw [decide_eq_true h0]
 replace h0 := PLift.up h0
 refine am ?_
 refine (SameW_spec X.down.k.app Y.down.k.app (by have := X.down.nk; omega)).mono ?_
 rintro _ _ ⟨rfl, rfl⟩
 by_cases h1 : (x.kn = y.kn ∧ ∀ i, i < x.kn → x.kw i = y.kw i)
 case neg =>
  rw [decide_eq_false h1]
  have H := PLift.up h1
  clear h1
  have no : decide (x.same y) = false := decide_eq_false fun h => H.down h.2.1
  refine am ?_
  exact ⟨_, rfl⟩
 rw [decide_eq_true h1]
 replace h1 := PLift.up h1
 refine am ?_
 refine (SameS_spec X.down.f.app Y.down.f.app (by have := X.down.nf; omega)).mono ?_
 rintro _ _ ⟨rfl, rfl⟩
 by_cases h2 : (x.fn = y.fn ∧ ∀ i, i < x.fn → x.fs i = y.fs i)
 case neg =>
  rw [decide_eq_false h2]
  have H := PLift.up h2
  clear h2
  have no : decide (x.same y) = false := decide_eq_false fun h => H.down h.2.2.1
  refine am ?_
  exact ⟨_, rfl⟩
 rw [decide_eq_true h2]
 replace h2 := PLift.up h2
 refine am ?_
 refine (SameS_spec X.down.c.app Y.down.c.app (by have := X.down.nc; omega)).mono ?_
 rintro _ _ ⟨rfl, rfl⟩
 by_cases h3 : (x.cn = y.cn ∧ ∀ i, i < x.cn → x.cs i = y.cs i)
 case neg =>
  rw [decide_eq_false h3]
  have H := PLift.up h3
  clear h3
  have no : decide (x.same y) = false := decide_eq_false fun h => H.down h.2.2.2
  refine am ?_
  exact ⟨_, rfl⟩
 rw [decide_eq_true h3]
 replace h3 := PLift.up h3
 have yes : decide (x.same y) = true := decide_eq_true ⟨h0.down, h1.down, h2.down, h3.down⟩
 refine am ?_
 exact ⟨_, rfl⟩
end Go.AM.G
