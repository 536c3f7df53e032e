/- The document's way: an address is put into a list that rises. -/
import Derived.Test.YtkimcedmfnoeoaaGreatDoorHkC
import Derived.Test.YtkimcedmfnoeoaaGreatDoorHkF
import Derived.Test.YtkimcedmfnoeoaaGreatDoorEpB
import Derived.Test.YtkimcedmfnoeoaaGreatDoorHkC
set_option linter.unusedVariables false
set_option linter.unusedSimpArgs false
set_option maxRecDepth 100000
namespace Go.AM.G
open Go Go.AM
def Ru (len : Nat) (g : Mem) (v : V) (l : List Nat) : Prop := (v = .nils ∧ l = []) ∨ ∃ j cap ex own full, v = .slice (len + j) 0 l.length cap ex 1 ∧ l.length ≤ cap ∧ g[j]? = some (.cells own full) ∧ full.take l.length = u64l l
section
variable {len : Nat} {g G A : Mem} {v : V} {l : List Nat}
theorem Ru.app (h : Ru len g v l) : Ru len (g ++ G) v l := h.imp id fun ⟨j, cap, ex, own, full, h1, h2, h3, h4⟩ => ⟨j, cap, ex, own, full, h1, h2, getElem?_grow h3, h4⟩
theorem Ru.cast {c : Nat} (h : Ru len g v l) (e : len = c := by (try simp only [List.length_append, List.length_cons, List.length_nil]) <;> omega) : Ru c g v l := e ▸ h
theorem Ru.pre (L : Mem) (h : Ru (len + L.length) g v l) : Ru len (L ++ g) v l := h.imp id fun ⟨j, cap, ex, own, full, h1, h2, h3, h4⟩ => ⟨L.length + j, cap, ex, own, full, by rw [h1, Nat.add_assoc], h2, by rw [List.getElem?_append_right (by omega), ← h3]; congr 1; omega, h4⟩
theorem Ru.cell (h : Ru len g v l) : v.isCell = true := by
 rcases h with ⟨rfl, _⟩ | ⟨j, cap, ex, own, full, rfl, _⟩ <;> rfl
theorem Ru.beq (h : Ru len g v l) : V.beq v v = true := by
 rcases h with ⟨rfl, _⟩ | ⟨j, cap, ex, own, full, rfl, _⟩
 ·rfl
 ·simp [V.beq]
theorem Ru.cap (h : Ru len g v l) : capOk v := by
 rcases h with ⟨rfl, _⟩ | ⟨j, cap, ex, own, full, rfl, h2, _⟩
 ·exact trivial
 ·exact h2
theorem Ru.sl (h : Ru A.length g v l) : Sl (A ++ (g ++ G)) v 1 (u64l l) := by
 rcases h with ⟨rfl, rfl⟩ | ⟨j, cap, ex, own, full, rfl, _, h3, h4⟩
 ·exact ⟨rfl, rfl⟩
 ·have h5 : (A ++ (g ++ G))[A.length + j]? = some (.cells own full) := by
   rw [← List.append_assoc]
   refine getElem?_grow ?_
   rw [List.getElem?_append_right (by omega), ← h3]; congr 1; omega
  have hl : l.length ≤ full.length := by
   have := congrArg List.length h4
   simp only [List.length_take, List.length_map] at this; omega
  refine ⟨?_, by simp [zOk]⟩
  simp only [elems, h5]
  rw [if_pos (by omega), List.drop_zero, h4]
theorem Ru.keep {g' : Mem} (h : Ru len g v l) (hk : ∀ j, blkOf v = some (len + j) → g'[j]? = g[j]?) : Ru len g' v l := by
 rcases h with h | ⟨j, cap, ex, own, full, h1, h2, h3, h4⟩
 ·exact .inl h
 ·exact .inr ⟨j, cap, ex, own, full, h1, h2, by rw [hk j (by rw [h1]; rfl)]; exact h3, h4⟩
theorem Ru.blk (h : Ru len g v l) {b : Nat} (hb : blkOf v = some b) : len ≤ b ∧ b < len + g.length := by
 rcases h with ⟨rfl, _⟩ | ⟨j, cap, ex, own, full, rfl, h2, h3, h4⟩
 ·cases hb
 ·cases hb
  have := (List.getElem?_eq_some_iff.1 h3).1
  omega
end
theorem app_eqU {M : Mem} {b n bytes : Nat} {ex : Bool} {els ys : List (List V)} {y : V} {zero : List V} {z : Nat} (hb : M[b]? = some (.cells true els)) (hn : els.length = n) (hy : Sl M y z ys) (hr : roomy (n + ys.length) bytes = true) (hz : zero.length = z := by rfl) :
  appendV M zero bytes (.slice b 0 n n ex z) y = if ys = [] then some (.slice b 0 n n ex z, M) else some (.slice M.length 0 (n + ys.length) (n + ys.length) false z, (if ex = true then M else M.set b .dead) ++ [.cells true (els ++ ys)]) := by
 subst hz
 unfold appendV
 rw [elemsY_of hy.1]
 cases ys with
 | nil => simp [hy.2]
 | cons a r =>
  subst hn
  cases ex <;> simp [hy.2, hb] at hr ⊢ <;> simp [hr]
theorem take_drop_u {l : List Nat} {i : Nat} : (u64l l).take i = u64l (l.take i) ∧ (u64l l).drop i = u64l (l.drop i) := ⟨List.map_take.symm, List.map_drop.symm⟩
theorem Sl.partsU {m : Mem} {v : V} {l : List Nat} {i : Nat} (h : Sl m v 1 (u64l l)) (hc : capOk v) (hi : i ≤ l.length) : ∃ u1 u2, sliceV v none (some (.int .i64 (i : Nat))) none = some u1 ∧ sliceV v (some (.int .i64 (i : Nat))) none none = some u2 ∧ Sl m u1 1 (u64l (l.take i)) ∧ Sl m u2 1 (u64l (l.drop i)) := by
 by_cases h0 : l = []
 ·subst h0
  have : i = 0 := by simpa using hi
  subst this
  rcases h.cases with ⟨rfl, _⟩ | ⟨b, j, len, cap, ex, rfl⟩
  ·exact ⟨.nils, .nils, by simp [sliceV, bound], by simp [sliceV, bound], ⟨rfl, rfl⟩, ⟨rfl, rfl⟩⟩
  ·have he := h.1
   simp only [elems] at he
   split at he
   ·rename_i own els hb
    split at he
    ·rename_i hle
     injection he with he
     have hlen : len = 0 := by
      have := congrArg List.length he
      simp only [List.length_take, List.length_drop, List.length_map, List.length_nil] at this; omega
     subst hlen
     refine ⟨.slice b j 0 cap ex 1, .slice b j 0 cap ex 1, by simp [sliceV, bound], by simp [sliceV, bound], h, h⟩
    ·cases he
   ·cases he
 ·have hpos : 0 < l.length := List.length_pos_iff.2 h0
  obtain ⟨b, j, len, cap, ex, own, els, rfl, hb, hl, hj1, hj2⟩ := h.get0 (i := 0) (by simpa using hpos)
  have hc' : len ≤ cap := hc
  rw [List.length_map] at hl
  have e1 : i ≤ cap := by omega
  have e2 : i ≤ len := by omega
  refine ⟨.slice b j i cap ex 1, .slice b (j + i) (len - i) (cap - i) ex 1, by simp [sliceV, bound, e1], by simp [sliceV, bound, e2], ⟨?_, by simp [zOk]⟩, ⟨?_, by simp [zOk]⟩⟩
  ·simp only [elems, hb]
   rw [if_pos (by omega), ← take_drop_u.1, hj2, List.take_take, Nat.min_eq_left e2]
  ·simp only [elems, hb]
   rw [if_pos (by omega), ← take_drop_u.2, hj2, List.drop_take, List.drop_drop]
theorem put_appU {m : Mem} {u1 u2 : V} {a b : List Nat} {p : Nat} {Q : V → Mem → Prop} (h1 : ∀ g, Sl (m ++ g) u1 1 (u64l a)) (h2 : ∀ g, Sl (m ++ g) u2 1 (u64l b)) (ha : a.length < 1000000) (hb : b.length < 1000000) (hQ : ∀ v g, Ru m.length g v (a ++ p :: b) → Q v (m ++ g)) :
  ∃ v1 m1, appendV (m ++ [Blk.cells true [], Blk.dead]) [V.int .u64 0] 8 (V.slice m.length 0 0 0 true 1) u1 = some (v1, m1) ∧ m1[m.length + 1]? = some Blk.dead ∧
   ∃ v2 m2, appendV (m1.set (m.length + 1) (Blk.cells true [[V.int .u64 (p : Int)]])) [V.int .u64 0] 8 v1 (V.slice (m.length + 1) 0 1 1 true 1) = some (v2, m2) ∧ ∃ v3 m3, appendV m2 [V.int .u64 0] 8 v2 u2 = some (v3, m3) ∧ Q v3 m3 := by
 have hel : ∀ x : Nat, u64l [x] = [[V.int .u64 (x : Int)]] := fun _ => rfl
 have s1 : ∀ (g : Mem) (T : Nat), (m ++ g)[T]? = some (.cells true [[V.int .u64 (p : Int)]]) → Sl (m ++ g) (.slice T 0 1 1 true 1) 1 [[V.int .u64 (p : Int)]] := fun g T hT => Sl.mk (els := [[V.int .u64 (p : Int)]]) hT
 have fin : ∀ (G : Mem) (k : Nat) (c : List Nat), G[k]? = some (.cells true (u64l c)) → c.length < 2000000 → G.length = k + 1 → (c ++ b = a ++ p :: b) → ∃ v3 m3, appendV (m ++ G) [V.int .u64 0] 8 (.slice (m.length + k) 0 c.length c.length false 1) u2 = some (v3, m3) ∧ Q v3 m3 := by
  intro G k c hG hc hk e
  have hGm : (m ++ G)[m.length + k]? = some (.cells true (u64l c)) := by rw [List.getElem?_append_right (by omega), Nat.add_sub_cancel_left]; exact hG
  have := app_eqU (n := c.length) (bytes := 8) (ex := false) (zero := [V.int .u64 0]) hGm (by simp) (h2 G) (by simp [roomy]; omega)
  rw [this]
  by_cases hb0 : b = []
  ·subst hb0
   rw [if_pos (show u64l [] = [] from rfl)]
   refine ⟨_, _, rfl, hQ _ _ ?_⟩
   rw [← e, List.append_nil]
   exact .inr ⟨k, c.length, false, true, u64l c, rfl, Nat.le_refl _, hG, by rw [← List.length_map (f := fun p : Nat => [V.int .u64 (p : Int)]), List.take_length]⟩
  ·rw [if_neg (by simpa using hb0)]
   have hs : (m ++ G).set (m.length + k) .dead = m ++ G.set k .dead := by rw [List.set_append_right _ _ (by omega), Nat.add_sub_cancel_left]
   refine ⟨_, _, rfl, ?_⟩
   rw [if_neg (by decide), hs, List.append_assoc]
   refine hQ _ _ ?_
   rw [← e]
   refine .inr ⟨G.length, (c ++ b).length, false, true, u64l (c ++ b), by simp, Nat.le_refl _, by simp, by rw [← List.length_map (f := fun p : Nat => [V.int .u64 (p : Int)]), List.take_length]⟩
 have e1 := app_eqU (M := m ++ [Blk.cells true [], Blk.dead]) (b := m.length) (n := 0) (bytes := 8) (ex := true) (els := []) (zero := [V.int .u64 0]) (by simp) rfl (h1 _) (by simp [roomy]; omega)
 by_cases ha0 : a = []
 ·subst ha0
  rw [if_pos (show u64l [] = [] from rfl)] at e1
  refine ⟨_, _, e1, by simp, ?_⟩
  have hset : (m ++ [Blk.cells true [], Blk.dead]).set (m.length + 1) (Blk.cells true [[V.int .u64 (p : Int)]]) = m ++ [Blk.cells true [], Blk.cells true [[V.int .u64 (p : Int)]]] := by rw [List.set_append_right _ _ (by omega), Nat.add_sub_cancel_left]; rfl
  rw [hset]
  have e2 := app_eqU (M := m ++ [Blk.cells true [], Blk.cells true [[V.int .u64 (p : Int)]]]) (b := m.length) (n := 0) (bytes := 8) (ex := true) (els := []) (zero := [V.int .u64 0]) (by simp) rfl (s1 _ (m.length + 1) (by simp)) (by simp [roomy])
  rw [if_neg (by simp), if_pos rfl] at e2
  refine ⟨_, _, e2, ?_⟩
  have := fin ([Blk.cells true [], Blk.cells true [[V.int .u64 (p : Int)]]] ++ [.cells true (u64l [p])]) 2 [p] rfl (by simp) rfl rfl
  simpa using this
 ·rw [if_neg (by simpa using ha0), if_pos rfl] at e1
  refine ⟨_, _, e1, by simp, ?_⟩
  have hset : (m ++ [Blk.cells true [], Blk.dead] ++ [Blk.cells true ([] ++ u64l a)]).set (m.length + 1) (Blk.cells true [[V.int .u64 (p : Int)]]) = m ++ [Blk.cells true [], Blk.cells true [[V.int .u64 (p : Int)]], .cells true (u64l a)] := by
   rw [List.append_assoc, List.set_append_right _ _ (by omega), Nat.add_sub_cancel_left]; rfl
  rw [hset]
  have e2 := app_eqU (M := m ++ [Blk.cells true [], Blk.cells true [[V.int .u64 (p : Int)]], .cells true (u64l a)]) (b := m.length + 2) (n := a.length) (bytes := 8) (ex := false) (els := u64l a) (zero := [V.int .u64 0]) (by simp) (by simp) (s1 _ (m.length + 1) (by simp)) (by simp [roomy]; omega)
  rw [if_neg (by simp), if_neg (by decide)] at e2
  have hset2 : (m ++ [Blk.cells true [], Blk.cells true [[V.int .u64 (p : Int)]], .cells true (u64l a)]).set (m.length + 2) .dead = m ++ [Blk.cells true [], Blk.cells true [[V.int .u64 (p : Int)]], .dead] := by
   rw [List.set_append_right _ _ (by omega), Nat.add_sub_cancel_left]; rfl
  rw [hset2] at e2
  have hl : (m ++ [Blk.cells true [], Blk.dead]).length = m.length + 2 := by simp
  refine ⟨_, _, by simpa [hl] using e2, ?_⟩
  have := fin ([Blk.cells true [], Blk.cells true [[V.int .u64 (p : Int)]], .dead] ++ [.cells true (u64l (a ++ [p]))]) 3 (a ++ [p]) rfl (by simp; omega) rfl (by simp)
  simpa using this
def putA (l : List Nat) (a : Nat) : List Nat := if a = 0 ∨ a ∈ l then l else putN l a
theorem mem_putA {l : List Nat} {a x : Nat} : x ∈ putA l a ↔ x ∈ l ∨ (x = a ∧ a ≠ 0) := by
 unfold putA
 split
 ·rename_i h
  constructor
  ·exact .inl
  ·rintro (h1 | ⟨rfl, h2⟩)
   ·exact h1
   ·exact h.resolve_left h2
 ·rename_i h
  rw [mem_putN]
  constructor
  ·rintro (rfl | h1)
   ·exact .inr ⟨rfl, fun e => h (.inl e)⟩
   ·exact .inl h1
  ·rintro (h1 | ⟨rfl, _⟩)
   ·exact .inr h1
   ·exact .inl rfl
theorem ref11_put_spec {m : Mem} {v : V} {l : List Nat} {p : Nat} (hv : Sl m v 1 (u64l l)) (hc : capOk v) (hl : l.length < 1000000) : C S n_ref11_put [v, .int .u64 (p : Nat)] m (fun r m' => ∃ g, m' = m ++ g ∧ ((r = v ∧ putA l p = l) ∨ Ru m.length g r (putA l p))) := by
 have A := (Nus.of hv).ar
 have cs : ∀ (h : p = 0 ∨ p ∈ l), PLift (putA l p = l) := fun h => ⟨if_pos h⟩
 by_cases hp0 : p = 0
 ·have c := cs (.inl hp0)
  have c0 : ((p : Int) = 0) = True := eq_true (by omega)
  clear hp0 cs
  refine fn rfl ?_
  exact ⟨[], by simp, .inl c.down⟩
 have c0 : ((p : Int) = 0) = False := eq_false (by omega)
 have hp0' := PLift.up hp0
 clear hp0
 refine fn rfl ?_
 refine (Has_spec (Nus.of hv) (by omega)).mono ?_
 rintro _ _ ⟨rfl, rfl⟩
 by_cases hin : p ∈ l
 ·rw [decide_eq_true hin]
  have c := cs (.inr hin)
  clear hin cs
  refine am ?_
  exact ⟨[], by simp, .inl c.down⟩
 rw [decide_eq_false hin]
 have hin' := PLift.up hin
 clear hin cs
 refine am ?_
 rename_i m
 let I := fun (d : Nat) (fr : Frame) (M : Mem) => ∃ i : Nat, i ≤ l.length ∧ d = l.length - i ∧ Has fr [(0, v), (1, .int .u64 (p : Nat)), (5, .int .i64 (i : Nat))] ∧ M = m ∧ ∀ (j x : Nat), j < i → l[j]? = some x → x < p
 refine W_loop I ?_ l.length ⟨0, Nat.zero_le _, rfl, byam, rfl, fun j x hj => absurd hj (Nat.not_lt_zero _)⟩
 rintro d fr M ⟨i, hi, rfl, F, hM, hlt⟩
 obtain rfl := hM.symm
 have hlt' := PLift.up hlt
 clear hlt
 have stop : PLift ((∀ x, l[i]? = some x → ¬ x < p) → putA l p = l.take i ++ p :: l.drop i) := ⟨fun h1 => by
  unfold putA
  rw [if_neg (fun h => by rcases h with h | h; exact hp0'.down h; exact hin'.down h), putN_at hi hlt'.down h1, if_neg fun h2 => hin'.down (List.mem_of_getElem? h2)]⟩
 obtain ⟨u1, u2, h1, h2, h3, h4⟩ := Sl.partsU hv hc hi
 have h3' := PLift.up h3
 have h4' := PLift.up h4
 clear h3 h4
 have omn : ∀ f : Arg → V, Option.map f none = none := fun _ => rfl
 have c1 : ∀ g : Mem, PLift (Sl (m ++ g) u1 1 (u64l (l.take i)) ∧ Sl (m ++ g) u2 1 (u64l (l.drop i))) := fun g => ⟨h3'.down.app, h4'.down.app⟩
 have z1 := h3'.down.2
 have z2 := h4'.down.2
 by_cases hil : i < l.length
 ·have hy := nx_get hil
  have c2 : ((i : Int) < (l.length : Int)) = True := eq_true (by omega)
  have w1 : IntKind.i64.wrap ((i : Int) + 1) = ((i + 1 : Nat) : Int) := by rw [wrap_i64] <;> omega
  by_cases hlt : nx l i < p
  ·have c3 : (((nx l i : Nat) : Int) < (p : Int)) = True := eq_true (by omega)
   have hlt2 := PLift.up hlt
   have hy' := PLift.up hy
   clear hlt hy
   refine into ?_
   refine ⟨_, ?_, i + 1, by omega, rfl, byam, rfl, fun j x hj hx => ?_⟩
   ·omega
   ·by_cases e : j = i
    ·subst e; rw [hy'.down] at hx; cases hx; exact hlt2.down
    ·exact hlt'.down j x (by omega) hx
  ·have c3 : (((nx l i : Nat) : Int) < (p : Int)) = False := eq_false (by omega)
   have hput : PLift (putA l p = l.take i ++ p :: l.drop i) := ⟨stop.down (fun x hx => by rw [hy] at hx; cases hx; exact hlt)⟩
   clear hlt hy
   refine into ?_
   exact put_appU (fun g => (c1 g).down.1) (fun g => (c1 g).down.2) (by simp; omega) (by simp; omega) fun r g hr => ⟨g, rfl, .inr (hput.down ▸ hr)⟩
 ·have ei : l[i]? = none := List.getElem?_eq_none (by omega)
  have c2 : ((i : Int) < (l.length : Int)) = False := eq_false (by omega)
  have hput : PLift (putA l p = l.take i ++ p :: l.drop i) := ⟨stop.down (fun x hx => by rw [ei] at hx; cases hx)⟩
  clear ei
  refine into ?_
  exact put_appU (fun g => (c1 g).down.1) (fun g => (c1 g).down.2) (by simp; omega) (by simp; omega) fun r g hr => ⟨g, rfl, .inr (hput.down ▸ hr)⟩
end Go.AM.G
set_option maxRecDepth 100000
namespace Go.AM.G
open Go Go.AM
def refR (a : Nat → Nat) (x : Nat) : Nat → List Nat
 | 0 => []
 | f + 1 => refR a x f ++ if (unM (a x)).testBit f = true then [a (x + 1 + f)] else []
theorem mem_refR {a : Nat → Nat} {x b : Nat} : ∀ {n : Nat}, b ∈ refR a x n ↔ ∃ f, f < n ∧ (unM (a x)).testBit f = true ∧ a (x + 1 + f) = b
 | 0 => by simp [refR]
 | n + 1 => by
  unfold refR
  rw [List.mem_append, mem_refR]
  constructor
  ·rintro (⟨f, h1, h2, h3⟩ | h)
   ·exact ⟨f, by omega, h2, h3⟩
   ·split at h
    ·rename_i hb
     exact ⟨n, by omega, hb, (List.mem_singleton.1 h).symm⟩
    ·simp at h
  ·rintro ⟨f, h1, h2, h3⟩
   by_cases e : f = n
   ·subst e
    rw [if_pos h2]
    exact .inr (by simp [h3])
   ·exact .inl ⟨f, by omega, h2, h3⟩
theorem refR_len {a : Nat → Nat} {x : Nat} : ∀ {n : Nat}, (refR a x n).length ≤ n
 | 0 => Nat.le_refl _
 | n + 1 => by
  have := @refR_len a x n
  unfold refR
  rw [List.length_append]
  split <;> simp <;> omega
theorem Lead_spec {m : Mem} {v : V} {a : Nat} {l : List ObA} {o : ObA} (hv : Obs m v l) (hl : l.length < 1000000) (ho : fnd l a = some o) : C S n_ref07_Lead [v, .int .u64 (a : Nat)] m (fun r m' => r = .tup [.agg (obV o), .bool true] ∧ Grow m m') := by
 have A := hv.ar
 refine fn rfl ?_
 refine (ref_find_spec hv.app hl).mono ?_
 rintro _ _ ⟨rfl, ⟨g, rfl⟩⟩
 have f1 : fndV (fnd l a) = .tup [.agg [.int .i64 (o.sp : Nat), .int .i64 (o.slot : Nat), .int .u64 (o.addr : Nat), .int .i64 (o.w % 256 : Nat), .int .u64 (unM o.w : Nat), .bool o.cur], .bool true] := by rw [ho]; rfl
 rw [f1]
 clear f1
 refine am ?_
 exact ⟨_, rfl⟩
theorem refs11_spec {m : Mem} {aw uw sv ov : V} {va vm : Nat → V} {H : HeapA} {l : List ObA} {a : Nat} {o : ObA} (h : HpRd m aw uw sv va vm H) (hov : Obs m ov l) (hl : l.length < 1000000) (ho : fnd l a = some o) (how : o.w = H.a a) (hu : unOk (H.a a)) (hb : a + 1 + H.a a % 256 ≤ H.na) (hna : H.na < 1000000) :
  C S n_ref11_refs [.agg (heapV H aw uw sv), ov, .int .u64 (a : Nat)] m (fun r m' => ∃ g, m' = m ++ g ∧ InS m.length g r 1 (u64l (refR H.a a (H.a a % 256)))) := by
 have A := h.a.ar.2.1
 have B := h.u.ar.2.1
 have D := h.s.s.ar.2.1
 have oc := hov.ar.2.1
 have eo : obV o = [.int .i64 (o.sp : Nat), .int .i64 (o.slot : Nat), .int .u64 (o.addr : Nat), .int .i64 (H.a a % 256 : Nat), .int .u64 (unM (H.a a) : Nat), .bool o.cur] := by rw [← how]
 have ho' := PLift.up ho
 clear ho how
 refine fn rfl ?_
 refine (Lead_spec hov.app hl ho'.down).mono ?_
 rintro _ _ ⟨rfl, ⟨g1, rfl⟩⟩
 rw [eo]
 clear eo
 refine am ?_
 obtain ⟨X, eX⟩ : ∃ X, m ++ .cells true [heapV H aw uw sv] :: (g1 ++ [.cells true [[.int .i64 (o.sp : Nat), .int .i64 (o.slot : Nat), .int .u64 (o.addr : Nat), .int .i64 (H.a a % 256 : Nat), .int .u64 (unM (H.a a) : Nat), .bool o.cur]]]) = X := ⟨_, rfl⟩
 have fh : ∀ G, (X ++ G)[m.length]? = some (.cells true [heapV H aw uw sv]) := fun G => by
  rw [← eX, List.append_assoc, get_off0]; rfl
 have f7 : ∀ G, (X ++ G)[m.length + (g1.length + 1)]? = some (.cells true [[.int .i64 (o.sp : Nat), .int .i64 (o.slot : Nat), .int .u64 (o.addr : Nat), .int .i64 (H.a a % 256 : Nat), .int .u64 (unM (H.a a) : Nat), .bool o.cur]]) := fun G => by
  rw [← eX, List.append_assoc, get_off]
  show ((g1 ++ [_]) ++ G)[g1.length]? = _
  rw [List.append_assoc, get_off0]; rfl
 have hX : ∀ G, Rd (X ++ G) aw 1 H.na (u64s H.a) := fun G => by rw [← eX, List.append_assoc]; exact h.a.app
 have hX' := PLift.up hX
 have eX' := PLift.up eX
 rw [eX]
 clear hX eX
 have pb := @pushB_mk
 let I := fun (d : Nat) (fr : Frame) (M : Mem) => ∃ (f : Nat) (v : V) (G : Mem), d + f = H.a a % 256 ∧ M = X ++ G ∧ Gw X.length G v 1 (u64l (refR H.a a f)) ∧ Has fr [(2, .int .u64 (a : Nat)), (3, .ptr m.length 0 0), (7, .ptr (m.length + (g1.length + 1)) 0 0), (9, v), (10, .int .i64 (f : Nat))]
 refine W_loop I ?_ (H.a a % 256) ⟨0, .nils, [], by omega, by simp, .inl ⟨rfl, rfl⟩, byam⟩
 rintro d fr _ ⟨f, v, G, hd, rfl, hG, F⟩
 have vc := hG.cell
 have hG' := PLift.up hG
 have h48 := hu.2.1
 cases d with
 | zero =>
  have ef : f = H.a a % 256 := by omega
  subst ef
  have c1 : (((H.a a % 256 : Nat) : Int) < ((H.a a % 256 : Nat) : Int)) = False := eq_false (by omega)
  clear hG pb
  refine into ?_
  refine ⟨.cells true [heapV H aw uw sv] :: (g1 ++ (.cells true [[.int .i64 (o.sp : Nat), .int .i64 (o.slot : Nat), .int .u64 (o.addr : Nat), .int .i64 (H.a a % 256 : Nat), .int .u64 (unM (H.a a) : Nat), .bool o.cur]] :: G)), by rw [← eX'.down]; simp only [List.append_assoc, List.cons_append, List.nil_append], fun Y hY => ?_⟩
  have := hG'.down.s (Y ++ .cells true [heapV H aw uw sv] :: (g1 ++ [.cells true [[.int .i64 (o.sp : Nat), .int .i64 (o.slot : Nat), .int .u64 (o.addr : Nat), .int .i64 (H.a a % 256 : Nat), .int .u64 (unM (H.a a) : Nat), .bool o.cur]]])) (by rw [← eX'.down]; simp [hY])
  simpa only [List.append_assoc, List.cons_append, List.nil_append] using this
 | succ d =>
  have c1 : ((f : Int) < ((H.a a % 256 : Nat) : Int)) = True := eq_true (by omega)
  have w0 : IntKind.i64.wrap ((f : Int) + 1) = ((f + 1 : Nat) : Int) := (wrap_i64 (by omega) (by omega)).trans (by omega)
  have w1 : IntKind.u64.wrap ((a : Int) + 1) = ((a + 1 : Nat) : Int) := (wrap_u64 (by omega) (by omega)).trans (by omega)
  have w2 : IntKind.u64.wrap (f : Int) = (f : Int) := un' (by omega)
  have w3 : IntKind.u64.wrap (((a + 1 : Nat) : Int) + (f : Int)) = ((a + 1 + f : Nat) : Int) := (wrap_u64 (by omega) (by omega)).trans (by omega)
  have lt : a + 1 + f < H.na := by omega
  have hA := (hX'.down G).ar
  have ix := hA.2.2.2.1 .u64 _ lt
  have ld := hA.2.2.2.2 (a + 1 + f) 0 none lt
  have hM : unM (H.a a) < 18446744073709551616 := by unfold unM; omega
  have s := shrN hM (show f < 64 by omega)
  have tm : (((unM (H.a a) >>> f : Nat)) : Int).tmod 2 = ((unM (H.a a) >>> f % 2 : Nat) : Int) := tmodN (b := 2)
  have b := @bit_at (unM (H.a a)) f
  clear hA
  cases hb : (unM (H.a a)).testBit f with
  | false =>
   rw [hb] at b
   have e : refR H.a a (f + 1) = refR H.a a f := by show _ ++ _ = _; rw [if_neg (by rw [hb]; decide), List.append_nil]
   have e' := PLift.up e
   clear hG pb e hb
   refine into ?_
   refine into ?_
   exact ⟨d, by omega, f + 1, v, G, by omega, rfl, by rw [e'.down]; exact hG'.down, byam⟩
  | true =>
   rw [hb] at b
   have e : refR H.a a (f + 1) = refR H.a a f ++ [H.a (a + 1 + f)] := by show _ ++ _ = _; rw [if_pos hb]
   have hll := @refR_len H.a a f
   obtain ⟨els, hels⟩ : ∃ els, u64l (refR H.a a f) = els := ⟨_, rfl⟩
   have hlen : els.length ≤ f := by rw [← hels]; simpa using hll
   have hnew : u64l (refR H.a a (f + 1)) = els ++ [[.int .u64 (H.a (a + 1 + f) : Nat)]] := by rw [e, u64l, List.map_append, ← u64l, hels]; rfl
   rw [hels] at hG
   obtain ⟨G', k1, _, hp⟩ := hG.push (zero := [.int .u64 0]) (bytes := 8) rfl (by simp [roomy]; omega)
   have hp2 := hp [.cells true [[.int .u64 (H.a (a + 1 + f) : Nat)]]]
   simp only [List.append_assoc, List.cons_append, List.nil_append, List.length_append, List.length_cons, List.length_nil] at hp2
   have k1' := PLift.up k1
   have hnew' := PLift.up hnew
   clear hG hp e hels hnew k1 hb hll
   refine into ?_
   refine into ?_
   refine ⟨d, by omega, f + 1, .slice (X.length + (G.length + 1)) 0 (els.length + 1) (els.length + 1) false 1, _, by omega, rfl, ?_, byam⟩
   rw [hnew'.down]
   refine .inr ⟨G.length + 1, by rw [List.length_append]; rfl, ?_⟩
   rw [← k1'.down, List.getElem?_append_right (by omega), Nat.add_sub_cancel_left]; rfl
end Go.AM.G
set_option maxRecDepth 100000
namespace Go.AM.G
open Go Go.AM
def Wd (M : Mem) (v : V) (l : List Nat) : Prop := Sl M v 1 (u64l l) ∧ capOk v
theorem Wd.app {M g : Mem} {v : V} {l : List Nat} (h : Wd M v l) : Wd (M ++ g) v l := ⟨h.1.app, h.2⟩
theorem Wd.cell {M : Mem} {v : V} {l : List Nat} (h : Wd M v l) : v.isCell = true := h.1.cell
theorem Wd.n {M : Mem} {v : V} {l : List Nat} (h : Wd M v l) : Nus M v l := Nus.of h.1
theorem put_wd {m : Mem} {v : V} {l : List Nat} {p : Nat} (h : Wd m v l) (hl : l.length < 1000000) : C S n_ref11_put [v, .int .u64 (p : Nat)] m (fun r m' => ∃ g, m' = m ++ g ∧ Wd m' r (putA l p)) := by
 refine (ref11_put_spec h.1 h.2 hl).mono ?_
 rintro r _ ⟨g, rfl, ⟨rfl, e⟩ | hr⟩
 ·exact ⟨g, rfl, by rw [e]; exact h.app⟩
 ·refine ⟨g, rfl, ?_, hr.cap⟩
  have := hr.sl (G := [])
  rwa [List.append_nil] at this
theorem putA_sorted {l : List Nat} {p : Nat} (h : l.Pairwise (· < ·)) : (putA l p).Pairwise (· < ·) := by
 unfold putA
 split
 ·exact h
 ·exact putN_sorted h
theorem rise_nodup {l : List Nat} (h : l.Pairwise (· < ·)) : l.Nodup := h.imp fun h => Nat.ne_of_lt h
def nxtS (a : Nat → Nat) (s : List E.Slot) (y x : Nat) : Prop := fldTo a y x ∨ ∃ q, q ∈ s ∧ q.st = 1 ∧ q.key = (y : Nat) ∧ q.val = (x : Nat)
structure Ot (cs l o : List Nat) (T : Nat → Prop) : Prop where
 so : o.Pairwise (· < ·)
 sub : ∀ x, x ∈ o → x ∈ cs
 mem : ∀ x, x ∈ o ↔ x ∈ l ∨ (x ≠ 0 ∧ T x)
theorem Ot.len {cs l o : List Nat} {T : Nat → Prop} (h : Ot cs l o T) : o.length ≤ cs.length := nodup_sub (rise_nodup h.so) h.sub
theorem Ot.put {cs l o : List Nat} {T : Nat → Prop} (h : Ot cs l o T) {p : Nat} (hp : p = 0 ∨ p ∈ cs) : Ot cs l (putA o p) (fun x => T x ∨ x = p) := by
 refine ⟨putA_sorted h.so, fun x hx => ?_, fun x => ?_⟩
 ·rcases mem_putA.1 hx with hx | ⟨rfl, hx⟩
  ·exact h.sub x hx
  ·exact hp.resolve_left hx
 ·rw [mem_putA, h.mem]
  constructor
  ·rintro ((h1 | ⟨h1, h2⟩) | ⟨rfl, h1⟩)
   ·exact .inl h1
   ·exact .inr ⟨h1, .inl h2⟩
   ·exact .inr ⟨h1, .inr rfl⟩
  ·rintro (h1 | ⟨h1, h2 | rfl⟩)
   ·exact .inl (.inl h1)
   ·exact .inl (.inr ⟨h1, h2⟩)
   ·exact .inr ⟨rfl, h1⟩
theorem Ot.to {cs l o : List Nat} {T T' : Nat → Prop} (h : Ot cs l o T) (e : ∀ x, T x ↔ T' x) : Ot cs l o T' := ⟨h.so, h.sub, fun x => by rw [h.mem, e]⟩
theorem All07_spec {m : Mem} {aw uw sv : V} {va vm : Nat → V} {H : HeapA} (h : HpRd m aw uw sv va vm H) (hf : H.framed) (hl : H.lookOk) : C S n_ref07_All [.agg (heapV H aw uw sv)] m (fun r m' => ∃ g, m' = m ++ g ∧ Gw m.length g r 6 ((obs H H.ns).map obV)) := by
 have A := h.a.ar.2.1
 have B := h.u.ar.2.1
 have D := h.s.s.ar.2.1
 refine fn rfl ?_
 refine (all_spec h.app hf).mono ?_
 rintro _ _ ⟨ov, g1, rfl, ⟨_, rfl, hG⟩ | ⟨hn, _⟩⟩
 case inr => exact absurd hl hn
 have hG' := PLift.up hG
 clear hG
 refine am ?_
 exact ⟨_, rfl, Gw.pre [_] hG'.down.cast⟩
theorem wider_spec {m : Mem} {aw uw sv tv v : V} {va vm : Nat → V} {H : HeapA} {cs l : List Nat} {s : List E.Slot} (h : HpRd m aw uw sv va vm H) (hR : H.right) (ecs : curs (obs H H.ns) = cs) (hcl : cs.length ≤ 2048) (hv : Wd m v l) (hso : l.Pairwise (· < ·)) (hsub : ∀ x, x ∈ l → x ∈ cs) (hs : Sl m tv 3 (E.encs s)) (hsl : s.length < 5864062014806)
  (hN : ∀ q, q ∈ s → q.st = 1 → ∃ a b : Nat, q.key = a ∧ q.val = b ∧ (b = 0 ∨ b ∈ cs)) :
  C S n_ref11_wider [.agg (heapV H aw uw sv), v, .agg [tv]] m (fun r m' => ∃ g, m' = m ++ g ∧ ∃ o, Wd m' r o ∧ Ot cs l o (fun x => ∃ y, y ∈ l ∧ nxtS H.a s y x)) := by
 have A := h.a.ar.2.1
 have B := h.u.ar.2.1
 have D := h.s.s.ar.2.1
 have vc := hv.cell
 have tc := hs.cell
 have hll : l.length ≤ cs.length := nodup_sub (rise_nodup hso) hsub
 have hol := obs_small hR.1
 have hna := hR.1.na
 have hcur' := PLift.up (fun a ha => HeapA.right.cur hR h.wa (a := a) ha)
 have hfr' := PLift.up hR.1
 have hlk' := PLift.up hR.2.1
 rw [ecs] at hcur'
 obtain ⟨os, eos⟩ : ∃ os, obs H H.ns = os := ⟨_, rfl⟩
 have eos' := PLift.up eos
 rw [eos] at hcur' hol
 have hv' := PLift.up hv
 have hs' := PLift.up hs
 have hN' := PLift.up hN
 have o0 : PLift (Ot cs l l (fun x => ∃ j, j < 0 ∧ fldTo H.a (nx l j) x)) := ⟨⟨hso, hsub, fun x => by constructor; exact .inl; rintro (h | ⟨_, j, hj, _⟩); exact h; omega⟩⟩
 have hsub' := PLift.up hsub
 clear hv hs hN hso hR eos ecs hsub
 refine fn rfl ?_
 refine (All07_spec h.app hfr'.down hlk'.down).mono ?_
 rintro ov _ ⟨g1, rfl, hG⟩
 rw [eos'.down] at hG
 have oc := hG.cell
 have hO : Obs (m ++ .cells true [heapV H aw uw sv] :: .cells true [[tv]] :: g1) ov os := by
  have := hG.obs (G := [])
  simpa only [List.append_assoc, List.cons_append, List.nil_append, List.append_nil] using this
 have hO' := PLift.up hO
 clear hG hO
 have la := hv'.down.n.ar.1
 refine am ?_
 obtain ⟨X, eX⟩ : ∃ X, m ++ .cells true [heapV H aw uw sv] :: .cells true [[tv]] :: g1 = X := ⟨_, rfl⟩
 have eX' := PLift.up eX
 have fh : X[m.length]? = some (.cells true [heapV H aw uw sv]) := by rw [← eX, get_off0]; rfl
 have ft : X[m.length + 1]? = some (.cells true [[tv]]) := by rw [← eX, get_off]; rfl
 have vX : Wd X v l := by rw [← eX]; exact hv'.down.app
 have hX : HpRd X aw uw sv va vm H := by rw [← eX]; exact h.app
 have sX : Sl X tv 3 (E.encs s) := by rw [← eX]; exact hs'.down.app
 rw [eX] at hO' ⊢
 have fh' := PLift.up (fun G : Mem => getElem?_grow (g := G) fh)
 have ft' := PLift.up (fun G : Mem => getElem?_grow (g := G) ft)
 have vX' := PLift.up vX
 have hX' := PLift.up hX
 have sX' := PLift.up sX
 clear fh ft vX hX sX eX la hv' hs'
 refine range (α := V × List Nat) l.length (fun x => [(1, v), (3, .ptr m.length 0 0), (5, .ptr (m.length + 1) 0 0), (8, ov), (18, v), (7, x.1)]) (fun k x M => (∃ G, M = X ++ G) ∧ Wd M x.1 x.2 ∧ Ot cs l x.2 (fun y => ∃ j, j < k ∧ fldTo H.a (nx l j) y)) (v, l) ⟨⟨[], by simp⟩, vX'.down, o0.down⟩ ?_ ?_
 ·rintro k ⟨w, o⟩ fr _ hk F ⟨⟨G, rfl⟩, hw, ho⟩
  have la := (vX'.down.n.app (g := G)).ar
  have fh := fh'.down G
  have hxl := hsub'.down _ (nx_mem hk)
  obtain ⟨c0, c1, c2, ⟨q, hq, hqw⟩, c3⟩ := hcur'.down _ hxl
  have hw' := PLift.up hw
  have ho' := PLift.up ho
  have wc := hw.cell
  have R := refs11_spec (hX'.down.app (g := G)) (hO'.down.app (g := G)) (by omega) hq hqw c2 c1 (by omega)
  have R' := PLift.up R
  have c3' := PLift.up c3
  clear hw ho R c0 c1 c2 hq hqw c3 hxl
  refine am ?_
  refine R'.down.mono ?_
  rintro rv _ ⟨g2, rfl, hI⟩
  have rc := hI.cell
  have hIs := hI (X ++ G) rfl
  have hrl := @refR_len H.a (nx l k) (H.a (nx l k) % 256)
  obtain ⟨rl, erl⟩ : ∃ rl, refR H.a (nx l k) (H.a (nx l k) % 256) = rl := ⟨_, rfl⟩
  rw [erl] at hIs hrl
  have rn : Nus (X ++ (G ++ g2)) rv rl := by rw [← List.append_assoc]; exact Nus.of hIs
  have rn' := PLift.up rn
  have ra := rn.ar.1
  have hrm : ∀ y, y ∈ rl ↔ fldTo H.a (nx l k) y := fun y => by rw [← erl, mem_refR]; rfl
  have hrm' := PLift.up hrm
  clear hI hIs R' rn hrm erl
  refine am ?_
  refine range (α := V × List Nat) rl.length (fun x => [(1, v), (3, .ptr m.length 0 0), (5, .ptr (m.length + 1) 0 0), (8, ov), (18, v), (19, .int .i64 (l.length : Nat)), (20, .int .i64 (k : Nat)), (27, rv), (7, x.1)]) (fun i x M => (∃ G', M = X ++ (G ++ (g2 ++ G'))) ∧ Wd M x.1 x.2 ∧ Ot cs l x.2 (fun y => (∃ j, j < k ∧ fldTo H.a (nx l j) y) ∨ ∃ j, j < i ∧ nx rl j = y)) (w, o) ⟨⟨[], by simp⟩, by have := hw'.down.app (g := g2); rwa [List.append_assoc] at this, ho'.down.to fun y => by constructor; exact .inl; rintro (h | ⟨j, hj, _⟩); exact h; omega⟩ ?_ ?_
  ·rintro i ⟨w, o⟩ fr _ hi F ⟨⟨G', rfl⟩, hw, ho⟩
   have ra := (rn'.down.app (g := G')).ar
   simp only [List.append_assoc] at ra
   have hw' := PLift.up hw
   have ho' := PLift.up ho
   have wc := hw.cell
   have hol' := ho.len
   have hin : PLift (nx rl i = 0 ∨ nx rl i ∈ cs) := ⟨by
    by_cases e : nx rl i = 0
    ·exact .inl e
    ·obtain ⟨f, h1, h2, h3⟩ := (hrm'.down _).1 (nx_mem hi)
     exact .inr (h3 ▸ c3'.down f h1 h2 (by rw [h3]; exact e))⟩
   clear hw ho
   refine am ?_
   refine (put_wd hw'.down (by omega)).mono ?_
   rintro r _ ⟨g3, rfl, hr⟩
   have hr' := PLift.up hr
   clear hr
   simp only [List.append_assoc]
   have hrr := hr'.down
   simp only [List.append_assoc] at hrr
   have hrr' := PLift.up hrr
   clear hrr
   refine am ?_
   refine ⟨(r, putA o (nx rl i)), byam, ⟨_, rfl⟩, hrr'.down, (ho'.down.put hin.down).to fun y => ?_⟩
   constructor
   ·rintro ((h1 | ⟨j, hj, h2⟩) | rfl)
    ·exact .inl h1
    ·exact .inr ⟨j, by omega, h2⟩
    ·exact .inr ⟨i, by omega, rfl⟩
   ·rintro (h1 | ⟨j, hj, h2⟩)
    ·exact .inl (.inl h1)
    ·by_cases e : j = i
     ·subst e; exact .inr h2.symm
     ·exact .inl (.inr ⟨j, by omega, h2⟩)
  ·rintro ⟨w, o⟩ fr _ F ⟨⟨G', rfl⟩, hw, ho⟩
   have hw' := PLift.up hw
   have ho' := PLift.up ho
   clear hw ho
   refine am ?_
   refine ⟨(w, o), byam, ⟨_, rfl⟩, hw'.down, ho'.down.to fun y => ?_⟩
   constructor
   ·rintro (⟨j, hj, h1⟩ | ⟨j, hj, h1⟩)
    ·exact ⟨j, by omega, h1⟩
    ·exact ⟨k, by omega, (hrm'.down y).1 (h1 ▸ nx_mem hj)⟩
   ·rintro ⟨j, hj, h1⟩
    by_cases e : j = k
    ·subst e
     obtain ⟨i, hi, h2⟩ := nx_of ((hrm'.down y).2 h1)
     exact .inr ⟨i, hi, h2⟩
    ·exact .inl ⟨j, by omega, h1⟩
 rintro ⟨w, o⟩ fr _ F ⟨⟨G, rfl⟩, hw, ho⟩
 have ft := ft'.down G
 have sa := (slots_rd (sX'.down.app (g := G))).ar.1
 have wc := hw.cell
 have hw' := PLift.up hw
 have ho' := PLift.up ho
 clear hw ho
 refine am ?_
 clear ft sa
 refine range (α := V × List Nat) s.length (fun x => [(1, v), (39, tv), (7, x.1)]) (fun k x M => (∃ G, M = X ++ G) ∧ Wd M x.1 x.2 ∧ Ot cs l x.2 (fun y => (∃ j, j < l.length ∧ fldTo H.a (nx l j) y) ∨ ∃ j, j < k ∧ (sOf s j).st = 1 ∧ ∃ z : Nat, z ∈ l ∧ (sOf s j).key = z ∧ (sOf s j).val = (y : Nat))) (w, o) ⟨⟨G, rfl⟩, hw'.down, ho'.down.to fun y => by constructor; exact .inl; rintro (h | ⟨j, hj, _⟩); exact h; omega⟩ ?_ ?_
 ·rintro k ⟨w, o⟩ fr _ hk F ⟨⟨G, rfl⟩, hw, ho⟩
  have sl := (slots_rd (sX'.down.app (g := G))).ar
  have hw' := PLift.up hw
  have ho' := PLift.up ho
  have wc := hw.cell
  have hol' := ho.len
  have hx := sOf_mem hk
  obtain ⟨x, ex⟩ : ∃ x, sOf s k = x := ⟨_, rfl⟩
  have ex' := PLift.up ex
  rw [ex] at hx
  have en : E.enc x = [.int .u8 x.st, .int .u64 x.key, .int .u64 x.val] := rfl
  have ext : ∀ y, ((∃ j, j < l.length ∧ fldTo H.a (nx l j) y) ∨ ∃ j, j < k + 1 ∧ (sOf s j).st = 1 ∧ ∃ z : Nat, z ∈ l ∧ (sOf s j).key = z ∧ (sOf s j).val = (y : Nat)) ↔ ((∃ j, j < l.length ∧ fldTo H.a (nx l j) y) ∨ ∃ j, j < k ∧ (sOf s j).st = 1 ∧ ∃ z : Nat, z ∈ l ∧ (sOf s j).key = z ∧ (sOf s j).val = (y : Nat)) ∨ (x.st = 1 ∧ ∃ z : Nat, z ∈ l ∧ x.key = z ∧ x.val = (y : Nat)) := fun y => by
   constructor
   ·rintro (h1 | ⟨j, hj, h2⟩)
    ·exact .inl (.inl h1)
    ·by_cases e : j = k
     ·subst e; rw [ex] at h2; exact .inr h2
     ·exact .inl (.inr ⟨j, by omega, h2⟩)
   ·rintro ((h1 | ⟨j, hj, h2⟩) | h2)
    ·exact .inl h1
    ·exact .inr ⟨j, by omega, h2⟩
    ·exact .inr ⟨k, by omega, by rw [ex]; exact h2⟩
  have ext' := PLift.up ext
  have hwx : ∀ g, Wd (X ++ (G ++ g)) w o := fun g => by rw [← List.append_assoc]; exact hw.app
  have hwx' := PLift.up hwx
  clear hw ho ext hwx
  by_cases h1 : x.st = 1
  ·obtain ⟨a, b, ea, eb, hb⟩ := hN'.down x hx h1
   have st' := PLift.up (show ∀ y : Nat, (x.st = 1 ∧ ∃ z : Nat, z ∈ l ∧ x.key = z ∧ x.val = (y : Nat)) ↔ a ∈ l ∧ y = b from fun y => by
    constructor
    ·rintro ⟨_, z, h2, h3, h4⟩
     have : a = z := by omega
     exact ⟨this ▸ h2, by omega⟩
    ·rintro ⟨h2, rfl⟩
     exact ⟨h1, a, h2, ea, eb⟩)
   have hb' := PLift.up hb
   rw [h1, ea, eb] at en
   clear hx h1 ea eb hb
   refine into ?_
   refine (Has_spec (a := a) vX'.down.app.n (by omega)).mono ?_
   rintro _ _ ⟨rfl, rfl⟩
   by_cases ha : a ∈ l
   ·rw [decide_eq_true ha]
    have ha' := PLift.up ha
    clear ha ex
    refine am ?_
    refine (put_wd (hwx'.down _) (by have : o.length ≤ cs.length := hol'; omega)).mono ?_
    rintro r _ ⟨g3, rfl, hr⟩
    simp only [List.append_assoc, List.cons_append, List.nil_append] at hr ⊢
    have hr' := PLift.up hr
    clear hr
    refine am ?_
    refine ⟨(r, putA o b), byam, ⟨_, rfl⟩, hr'.down, (ho'.down.put hb'.down).to fun y => ?_⟩
    rw [ext'.down, st'.down]
    exact or_congr Iff.rfl ⟨fun e => ⟨ha'.down, e⟩, fun e => e.2⟩
   ·rw [decide_eq_false ha]
    have ha' := PLift.up ha
    clear ha ex
    refine am ?_
    refine ⟨(w, o), byam, ⟨_, rfl⟩, hwx'.down _, ho'.down.to fun y => ?_⟩
    rw [ext'.down, st'.down]
    exact ⟨.inl, fun h => by rcases h with h | h; exact h; exact absurd h.1 ha'.down⟩
  ·have c1 := eq_false h1
   have h1' := PLift.up h1
   clear hx h1
   refine into ?_
   refine ⟨(w, o), byam, ⟨_, rfl⟩, hwx'.down _, ho'.down.to fun y => ?_⟩
   rw [ext'.down]
   exact ⟨.inl, fun h => by rcases h with h | h; exact h; exact absurd h.1 h1'.down⟩
 rintro ⟨w, o⟩ fr _ F ⟨⟨G, rfl⟩, hw, ho⟩
 have wc := hw.cell
 have hw' := PLift.up hw
 have ho' := PLift.up ho
 clear hw ho
 refine am ?_
 refine ⟨.cells true [heapV H aw uw sv] :: .cells true [[tv]] :: (g1 ++ G), by rw [← eX'.down]; simp only [List.append_assoc, List.cons_append], o, hw'.down, ho'.down.to fun y => ?_⟩
 constructor
 ·rintro (⟨j, hj, h1⟩ | ⟨j, hj, h1, z, h2, h3, h4⟩)
  ·exact ⟨_, nx_mem hj, .inl h1⟩
  ·exact ⟨z, h2, .inr ⟨_, sOf_mem hj, h1, h3, h4⟩⟩
 ·rintro ⟨z, hz, h1 | ⟨q, hq, h2, h3, h4⟩⟩
  ·obtain ⟨j, hj, rfl⟩ := nx_of hz
   exact .inl ⟨j, hj, h1⟩
  ·obtain ⟨j, hj, e⟩ := List.getElem_of_mem hq
   have e' : sOf s j = q := by unfold sOf; rw [List.getD_eq_getElem?_getD, List.getElem?_eq_getElem hj]; exact e
   exact .inr ⟨j, hj, by rw [e']; exact ⟨h2, z, hz, h3, h4⟩⟩
end Go.AM.G
