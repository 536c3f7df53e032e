/- rows of growing rows; what two agree on. -/
import Derived.Test.YtnpefpiggklimaaGraphOT
import Derived.Test.YtnpefpiggklimaaGraphX
import Derived.Test.YtnpefpiggklimaaGraphE
import Derived.Test.YtnpefpiggklimaaGraphHT
set_option linter.unusedVariables false
set_option linter.unusedSimpArgs false
set_option maxRecDepth 100000
namespace Go.AM.G
open Go Go.AM
def revAt (l : List Nat) (i k : Nat) : Nat := if k < i ∨ l.length - 1 - i < k then l.getD (l.length - 1 - k) 0 else l.getD k 0
theorem getD_get {l : List Nat} {k : Nat} (h : k < l.length) : l[k]? = some (l.getD k 0) := by
  rw [List.getElem?_eq_getElem h, List.getD_eq_getElem?_getD, List.getElem?_eq_getElem h]; rfl
/-- a list is turned round in its own block. -/
theorem Reverse_spec {m : Mem} {b cap : Nat} {ex : Bool} {els : List (List V)} {l : List Nat} (hb : m[b]? = some (.cells true els)) (hle : els.take l.length = nats l) (hn : l.length < 2 ^ 60) :
    C S n_slices_Reverse_int [.slice b 0 l.length cap ex 1] m (fun r m' => ∃ els', m' = m.set b (.cells true els') ∧ els'.length = els.length ∧ els'.take l.length = nats l.reverse) := by
  refine C_body rfl rfl rfl ?_
  unfold slices_Reverse_int
  have hal : asLen (.slice b 0 l.length cap ex 1) = some (.int .i64 l.length) := rfl
  have w0 : IntKind.i64.wrap ((l.length : Int) - 1) = (l.length : Int) - 1 := by rw [wrap_i64] <;> omega
  have hll : l.length ≤ els.length := by
    have := congrArg List.length hle
    simp at this
    omega
  simp (maxDischargeDepth := 30) only [hal, w0, amL, args0, Nat.reduceEqDiff, reduceCtorEq, ↓reduceIte, Nat.reduceAdd, resultsA, results1, Int.reduceNeg, splice, Nat.reduceLeDiff, part, fillA, fillE, Nat.reduceLT]
  let I := fun (k : Nat) (fr : Frame) (M : Mem) => ∃ (i : Nat) (els' : List (List V)), k = l.length - i ∧ fr 0 = .slice b 0 l.length cap ex 1 ∧ fr 2 = .int .i64 (i : Nat) ∧ fr 3 = .int .i64 ((l.length : Int) - 1 - i) ∧ M = m.set b (.cells true els') ∧ els'.length = els.length ∧ (2 * i ≤ l.length + 1) ∧ ∀ k, k < l.length → els'[k]? = some [V.int .i64 (revAt l i k : Nat)]
  have hblt := (List.getElem?_eq_some_iff.1 hb).1
  refine W_loop I ?_ l.length ?_
  · rintro k fr M ⟨i, els', rfl, f0, f2, f3, rfl, hlen, hi2, hel⟩
    unfold slices_Reverse_int_l0
    simp (maxDischargeDepth := 30) only [f0, f2, f3, amL, args0, Nat.reduceEqDiff, reduceCtorEq, ↓reduceIte, Nat.reduceAdd, resultsA, results1, Int.reduceNeg, splice, Nat.reduceLeDiff, part, fillA, fillE, Nat.reduceLT]
    by_cases hij : (i : Int) < (l.length : Int) - 1 - i
    · obtain ⟨j, hj⟩ : ∃ j : Nat, (l.length : Int) - 1 - i = j := ⟨l.length - 1 - i, by omega⟩
      rw [hj] at f3 hij
      have hjl : j < l.length := by omega
      have hil : i < l.length := by omega
      have hM : (m.set b (.cells true els'))[b]? = some (.cells true els') := List.getElem?_set_self hblt
      have ixj : asIndex 1 (.slice b 0 l.length cap ex 1) (.int .i64 j) = some (atp (.slice b 0 l.length cap ex 1) j 0) := by
        have : (0 : Int) ≤ j ∧ (j : Int) < l.length := by omega
        simp [asIndex, atp]; omega
      have ixi : asIndex 1 (.slice b 0 l.length cap ex 1) (.int .i64 i) = some (atp (.slice b 0 l.length cap ex 1) i 0) := by
        have : (0 : Int) ≤ i ∧ (i : Int) < l.length := by omega
        simp [asIndex, atp]; omega
      have hej := hel j hjl
      have hei := hel i hil
      have ldj : loadV (m.set b (.cells true els')) none (atp (.slice b 0 l.length cap ex 1) j 0) = some (.int .i64 (revAt l i j : Nat)) := by simp [loadV, atp, hM, hej, part]
      have ldi : loadV (m.set b (.cells true els')) none (atp (.slice b 0 l.length cap ex 1) i 0) = some (.int .i64 (revAt l i i : Nat)) := by simp [loadV, atp, hM, hei, part]
      have st1 := store_own (n := 1) (len := l.length) (cap := cap) (z := 1) (ex := ex) (x := .int .i64 (revAt l i j : Nat)) hM hei rfl rfl rfl
      rw [List.set_set] at st1
      have hM2 : (m.set b (.cells true (els'.set i [V.int .i64 (revAt l i j : Nat)])))[b]? = some (.cells true (els'.set i [V.int .i64 (revAt l i j : Nat)])) := List.getElem?_set_self hblt
      have hej2 : (els'.set i [V.int .i64 (revAt l i j : Nat)])[j]? = some [V.int .i64 (revAt l i j : Nat)] := by rw [List.getElem?_set_ne (by omega)]; exact hej
      have st2 := store_own (n := 1) (len := l.length) (cap := cap) (z := 1) (ex := ex) (x := .int .i64 (revAt l i i : Nat)) hM2 hej2 rfl rfl rfl
      rw [List.set_set] at st2
      have w1 : IntKind.i64.wrap ((i : Int) + 1) = ((i + 1 : Nat) : Int) := by rw [wrap_i64] <;> omega
      have w2 : IntKind.i64.wrap ((j : Int) - 1) = (l.length : Int) - 1 - ((i + 1 : Nat) : Int) := by rw [wrap_i64] <;> omega
      simp only [V.cells] at st1 st2
      have r0 : List.replicate 0 Blk.dead = [] := rfl
      simp (maxDischargeDepth := 30) only [f0, f2, f3, hj, hij, ixj, ldj, ixi, ldi, st1, st2, w1, w2, r0, List.append_nil, amL, args0, Nat.reduceEqDiff, reduceCtorEq, ↓reduceIte, Nat.reduceAdd, resultsA, results1, Int.reduceNeg, splice, Nat.reduceLeDiff, part, fillA, fillE, Nat.reduceLT]
      refine ⟨_, ?_, i + 1, _, rfl, ?_, ?_, ?_, rfl, ?_, ?_, fun k hk => ?_⟩
      · omega
      · simp (maxDischargeDepth := 30) only [f0, amL, args0, Nat.reduceEqDiff, reduceCtorEq, ↓reduceIte, Nat.reduceAdd, resultsA, results1, Int.reduceNeg, splice, Nat.reduceLeDiff, part, fillA, fillE, Nat.reduceLT]
      · simp (maxDischargeDepth := 30) only [amL, args0, Nat.reduceEqDiff, reduceCtorEq, ↓reduceIte, Nat.reduceAdd, resultsA, results1, Int.reduceNeg, splice, Nat.reduceLeDiff, part, fillA, fillE, Nat.reduceLT]
      · simp (maxDischargeDepth := 30) only [amL, args0, Nat.reduceEqDiff, reduceCtorEq, ↓reduceIte, Nat.reduceAdd, resultsA, results1, Int.reduceNeg, splice, Nat.reduceLeDiff, part, fillA, fillE, Nat.reduceLT]
      · simp [hlen]
      · omega
      · by_cases e1 : k = j
        · subst e1
          rw [List.getElem?_set_self (by simp; omega)]
          have e2 : revAt l i i = revAt l (i + 1) k := by
            unfold revAt
            rw [if_neg (by omega), if_pos (by omega)]
            congr 1; omega
          rw [e2]
        · rw [List.getElem?_set_ne (Ne.symm e1)]
          by_cases e3 : k = i
          · subst e3
            rw [List.getElem?_set_self (by omega)]
            have e2 : revAt l k j = revAt l (k + 1) k := by
              unfold revAt
              rw [if_neg (by omega), if_pos (by omega)]
              congr 1; omega
            rw [e2]
          · rw [List.getElem?_set_ne (Ne.symm e3), hel k hk]
            have e2 : revAt l i k = revAt l (i + 1) k := by
              unfold revAt
              by_cases h : k < i ∨ l.length - 1 - i < k
              · rw [if_pos h, if_pos (by omega)]
              · rw [if_neg h, if_neg (by omega)]
            rw [e2]
    · simp (maxDischargeDepth := 30) only [f0, f2, f3, hij, amL, args0, Nat.reduceEqDiff, reduceCtorEq, ↓reduceIte, Nat.reduceAdd, resultsA, results1, Int.reduceNeg, splice, Nat.reduceLeDiff, part, fillA, fillE, Nat.reduceLT]
      refine ⟨els', rfl, hlen, ?_⟩
      apply List.ext_getElem?
      intro k
      by_cases hk : k < l.length
      · rw [List.getElem?_take, if_pos hk, hel k hk]
        have : (nats l.reverse)[k]? = some [V.int .i64 (l.getD (l.length - 1 - k) 0 : Nat)] := nats_get (by rw [List.getElem?_reverse hk]; exact getD_get (by omega))
        rw [this]
        unfold revAt
        by_cases h : k < i ∨ l.length - 1 - i < k
        · rw [if_pos h]
        · rw [if_neg h]
          have : l.length - 1 - k = k := by omega
          rw [this]
      · rw [List.getElem?_eq_none (by simp; omega), List.getElem?_eq_none (by simp; omega)]
  · refine ⟨0, els, by omega, by simp (maxDischargeDepth := 30) only [amL, args0, Nat.reduceEqDiff, reduceCtorEq, ↓reduceIte, Nat.reduceAdd, resultsA, results1, Int.reduceNeg, splice, Nat.reduceLeDiff, part, fillA, fillE, Nat.reduceLT], by simp (maxDischargeDepth := 30) only [amL, args0, Nat.reduceEqDiff, reduceCtorEq, ↓reduceIte, Nat.reduceAdd, resultsA, results1, Int.reduceNeg, splice, Nat.reduceLeDiff, part, fillA, fillE, Nat.reduceLT]; rfl, by simp (maxDischargeDepth := 30) only [amL, args0, Nat.reduceEqDiff, reduceCtorEq, ↓reduceIte, Nat.reduceAdd, resultsA, results1, Int.reduceNeg, splice, Nat.reduceLeDiff, part, fillA, fillE, Nat.reduceLT]; simp, ?_, rfl, by omega, fun k hk => ?_⟩
    · apply List.ext_getElem?
      intro c
      by_cases e : b = c
      · subst e; rw [List.getElem?_set_self hblt, hb]
      · rw [List.getElem?_set_ne e]
    · have h1 : (els.take l.length)[k]? = some [V.int .i64 (l.getD k 0 : Nat)] := by rw [hle]; exact nats_get (getD_get hk)
      rw [List.getElem?_take, if_pos hk] at h1
      rw [h1]
      unfold revAt
      rw [if_neg (by omega)]
theorem Reverse_nil {m : Mem} : C S n_slices_Reverse_int [.nils] m (fun r m' => m' = m) := by
  refine C_body rfl rfl rfl ?_
  unfold slices_Reverse_int
  have hal : asLen .nils = some (.int .i64 0) := rfl
  have w0 : IntKind.i64.wrap ((0 : Int) - 1) = -1 := by decide
  simp (maxDischargeDepth := 30) only [hal, w0, amL, args0, Nat.reduceEqDiff, reduceCtorEq, ↓reduceIte, Nat.reduceAdd, resultsA, results1, Int.reduceNeg, splice, Nat.reduceLeDiff, part, fillA, fillE, Nat.reduceLT]
  refine W_loop (fun k (fr : Frame) (M : Mem) => fr 2 = .int .i64 0 ∧ fr 3 = .int .i64 (-1) ∧ M = m) ?_ 0 ?_
  · rintro k fr M ⟨f2, f3, rfl⟩
    unfold slices_Reverse_int_l0
    have : ¬ (0 : Int) < -1 := by decide
    simp (maxDischargeDepth := 30) only [f2, f3, this, amL, args0, Nat.reduceEqDiff, reduceCtorEq, ↓reduceIte, Nat.reduceAdd, resultsA, results1, Int.reduceNeg, splice, Nat.reduceLeDiff, part, fillA, fillE, Nat.reduceLT]
  · exact ⟨by simp (maxDischargeDepth := 30) only [amL, args0, Nat.reduceEqDiff, reduceCtorEq, ↓reduceIte, Nat.reduceAdd, resultsA, results1, Int.reduceNeg, splice, Nat.reduceLeDiff, part, fillA, fillE, Nat.reduceLT], by simp (maxDischargeDepth := 30) only [amL, args0, Nat.reduceEqDiff, reduceCtorEq, ↓reduceIte, Nat.reduceAdd, resultsA, results1, Int.reduceNeg, splice, Nat.reduceLeDiff, part, fillA, fillE, Nat.reduceLT], rfl⟩
theorem GS_reverse {B : Nat} {M : Mem} {u : V} {l : List Nat} (h : GS B M u 1 (nats l)) (hn : l.length < 2 ^ 60) : C S n_slices_Reverse_int [u] M (fun _ M' => GS B M' u 1 (nats l.reverse) ∧ ∀ c y, c < B → M[c]? = some y → M'[c]? = some y) := by
  rcases h with ⟨rfl, h2⟩ | ⟨b, ex, els, h1, rfl, h3, h4⟩
  · have hl : l = [] := by simpa using h2
    subst hl
    refine Reverse_nil.mono ?_
    rintro _ _ rfl
    exact ⟨.inl ⟨rfl, rfl⟩, fun c y _ h => h⟩
  · have hl : (nats l).length = l.length := by simp
    rw [hl] at h4 ⊢
    refine (Reverse_spec h3 h4 hn).mono ?_
    rintro _ _ ⟨els', rfl, e1, e2⟩
    refine ⟨.inr ⟨b, ex, els', h1, by simp [e1], set_self' h3, ?_⟩, fun c y hc hy => set_get (by omega) hy⟩
    simpa using e2
/-- the walk's state in the memory. -/
structure OM (m : Mem) (M : Mem) (n : Nat) (s : OS) (ov cv : V) : Prop where
  se : M[m.length]? = some (.cells true (boolF n s.seen))
  o : GS (m.length + 1) M ov 1 (nats s.out)
  c : GS (m.length + 1) M cv 2 (encC s.calls)
  ap : ∀ x, blkOf cv = some x → blkOf ov ≠ some x
  gr : Grow m M
theorem OM.slS {m M : Mem} {n : Nat} {s : OS} {ov cv : V} (h : OM m M n s ov cv) : Sl M (.slice m.length 0 n n true 1) 1 (boolF n s.seen) := by have := Sl.mk (cap := n) (ex := true) (z := 1) h.se; rwa [boolF_len] at this
theorem OM.setS {m M : Mem} {n : Nat} {s : OS} {ov cv : V} {f : Nat → Bool} (h : OM m M n s ov cv) : OM m (M.set m.length (.cells true (boolF n f))) n { s with seen := f } ov cv :=
  ⟨set_self' h.se, h.o.keep fun c y hc hy => set_get (by have := (h.o.blk hc).1; omega) hy, h.c.keep fun c y hc hy => set_get (by have := (h.c.blk hc).1; omega) hy, h.ap, h.gr.set (Nat.le_refl _) _⟩
theorem OM.app {m M g : Mem} {n : Nat} {s : OS} {ov cv : V} (h : OM m M n s ov cv) : OM m (M ++ g) n s ov cv := ⟨getElem?_grow h.se, h.o.app, h.c.app, h.ap, h.gr.app⟩
theorem OI.len {to : Nat → List Nat} {src : List Nat} {n : Nat} {s : OS} (h : OI to src n s) : s.out.length + s.calls.length ≤ n := by
  have := nodup_le n _ h.nd h.bnd
  simpa [OS.all] using this
def OS.mu (to : Nat → List Nat) (n : Nat) (s : OS) : Nat := Go.AM.G.mu to n s.toTS
theorem OS.mu_pop {to : Nat → List Nat} {n : Nat} {s : OS} {c i : Nat} {rest : List (Nat × Nat)} (hc : s.calls = (c, i) :: rest) : OS.mu to n ⟨s.seen, s.out ++ [c], rest⟩ < OS.mu to n s := Go.AM.G.mu_pop (s := s.toTS) hc _ rfl rfl
theorem OS.mu_skip {to : Nat → List Nat} {n : Nat} {s : OS} {c i q : Nat} {rest : List (Nat × Nat)} (hc : s.calls = (c, i) :: rest) (hq : (to c)[i]? = some q) : OS.mu to n ⟨s.seen, s.out, (c, i + 1) :: rest⟩ < OS.mu to n s := Go.AM.G.mu_skip (s := s.toTS) hc hq _ rfl rfl
theorem OS.mu_push {to : Nat → List Nat} {n : Nat} {s : OS} {c i q : Nat} {rest : List (Nat × Nat)} (hc : s.calls = (c, i) :: rest) (hq : (to c)[i]? = some q) (hqn : q < n) (h0 : s.seen q = false) : OS.mu to n ⟨upd s.seen q true, s.out, (q, 0) :: (c, i + 1) :: rest⟩ < OS.mu to n s := by
  have := Go.AM.G.mu_new (to := to) (n := n) (s := s.toTS) hc hq hqn (by simp [OS.toTS, h0])
  refine Nat.lt_of_le_of_lt (Nat.le_of_eq ?_) this
  unfold OS.mu Go.AM.G.mu
  have : (OS.toTS ⟨upd s.seen q true, s.out, (q, 0) :: (c, i + 1) :: rest⟩).ix = (enterT (nextEdge s.toTS c i rest) q).ix := by
    funext x
    show (if upd s.seen q true x then 1 else 0) = upd s.toTS.ix q (s.toTS.next + 1) x
    by_cases e : x = q
    · subst e; simp [upd_self, OS.toTS]
    · rw [upd_ne e, upd_ne e]; rfl
  rw [this]
  rfl
theorem order_spec {m : Mem} {Nb : Nat} {own : Bool} {nv rv : V} {N : List NodeA} {R : List Int} (hG : Gr m nv rv N R) (hf : Fits N R) (hval : validG N R = true) (hN : m[Nb]? = some (.cells own [[nv, rv]])) :
    C S n_graph_net_order [.ptr Nb 0 0] m (fun r m' => Grow m m' ∧ ∃ L, GS m.length m' r 1 (nats L) ∧ OrdL (toN N) (rootsN R) N.length L) := by
  obtain ⟨hn, hto, hlt, hR, hRl, _⟩ := valid_to hval
  obtain ⟨_, els0, hne0, hel0, _⟩ := id hG
  generalize hnn : N.length = n at *
  refine C_body rfl rfl rfl ?_
  unfold graph_net_order
  have ldN := fun j k => load_at0 (k := k) (j := j) hN
  have rm1 : 0 ≤ (n : Int) ∧ (n : Int) ≤ n ∧ roomy (n : Int).toNat 1 = true := by simp [roomy]; omega
  have rm1' : roomy n 1 = true := by simpa using rm1.2.2
  have rm0 : 0 ≤ (n : Int) ∧ (n : Int) ≤ n := ⟨rm1.1, rm1.2.1⟩
  have ldN1 : ∀ j k, loadV (m ++ [Blk.cells true (List.replicate n [V.bool false])]) k (.ptr Nb 0 j) = part [nv, rv] j k := fun j k => load_at0 (getElem?_grow hN)
  have hrs : Sl m rv 1 (nats (rootsN R)) := by
    have h1 := hG.1
    rw [hR] at h1
    rw [nats_ints]; exact h1
  have hrl : (nats (rootsN R)).length = (rootsN R).length := by simp
  have hrlen : (rootsN R).length < 2 ^ 60 := by have := hf.2.1; simpa [rootsN] using this
  have hrsl := hrs.len
  rw [hrl] at hrsl
  simp (maxDischargeDepth := 30) only [ldN, hne0.len, hel0, rm1, rm1', rm0, ldN1, hrsl, amL, args0, Nat.reduceEqDiff, reduceCtorEq, ↓reduceIte, Nat.reduceAdd, resultsA, results1, Int.reduceNeg, splice, Nat.reduceLeDiff, part, fillA, fillE, Nat.reduceLT]
  have hRl : ∀ q, q ∈ rootsN R → q < n := hRl
  generalize hsr : rootsN R = src at *
  let I := fun (k : Nat) (fr : Frame) (M : Mem) => ∃ (i : Nat) (s : OS) (ov : V), i ≤ src.length ∧ k = src.length - i ∧ fr 0 = .ptr Nb 0 0 ∧ fr 3 = .slice m.length 0 n n true 1 ∧ fr 4 = ov ∧ fr 22 = rv ∧ fr 23 = .int .i64 src.length ∧ fr 24 = .int .i64 (i : Nat) ∧ OM m M n s ov .nils ∧ OI (toN N) src n s ∧ s.calls = [] ∧ ∀ j r, j < i → src[j]? = some r → s.seen r = true
  refine W_loop I ?_ src.length ?_
  · rintro k fr M ⟨i, s, ov, hi, rfl, f0, f3, f4, f22, f23, f24, hM, hI, hcs, hdone⟩
    unfold graph_net_order_l0
    simp (maxDischargeDepth := 30) only [f0, f3, f4, f22, f23, f24, amL, args0, Nat.reduceEqDiff, reduceCtorEq, ↓reduceIte, Nat.reduceAdd, resultsA, results1, Int.reduceNeg, splice, Nat.reduceLeDiff, part, fillA, fillE, Nat.reduceLT]
    first | (refine O_split (by simp only [put_apply, Nat.reduceEqDiff, ↓reduceIte, reduceCtorEq]; rfl) (fun h => ?_) (fun h => ?_) <;> simp only [decide_eq_true_eq, decide_eq_false_iff_not, Decidable.not_not, Bool.and_eq_true, Bool.not_eq_true', Bool.not_eq_false'] at h) | (refine W_split (by simp only [get_t, put_apply, Nat.reduceEqDiff, ↓reduceIte, reduceCtorEq]; rfl) (fun h => ?_) (fun h => ?_) <;> simp only [decide_eq_true_eq, decide_eq_false_iff_not, Decidable.not_not, Bool.and_eq_true, Bool.not_eq_true', Bool.not_eq_false'] at h)
    · have hil : i < src.length := by omega
      obtain ⟨r, hr⟩ : ∃ r, src[i]? = some r := ⟨_, List.getElem?_eq_getElem hil⟩
      have hrn := hRl r (List.mem_of_getElem? hr)
      have hrM := hrs.grow hM.gr
      have ix := hrM.index (ki := .i64) (n := i) (by omega) (by rw [hrl]; omega)
      have ld := fun o k => hrM.load (o := o) (k := k) (nats_get hr)
      have ixS := hM.slS.index (ki := .i64) (n := r) (by omega) (by rw [boolF_len]; omega)
      have ldS := fun o k => hM.slS.load (o := o) (k := k) (boolF_get hrn)
      simp only [Int.toNat_natCast] at ix ld ixS ldS
      have w1 : IntKind.i64.wrap ((i : Int) + 1) = ((i + 1 : Nat) : Int) := by rw [wrap_i64] <;> omega
      cases hsn : s.seen r with
      | true =>
        rw [hsn] at ldS
        simp (maxDischargeDepth := 30) only [h, f0, f3, f4, f22, f23, f24, ix, ld, ixS, ldS, w1, amL, args0, Nat.reduceEqDiff, reduceCtorEq, ↓reduceIte, Nat.reduceAdd, resultsA, results1, Int.reduceNeg, splice, Nat.reduceLeDiff, part, fillA, fillE, Nat.reduceLT]
        refine ⟨_, ?_, i + 1, s, ov, by omega, rfl, ?_, ?_, ?_, ?_, ?_, ?_, hM, hI, hcs, fun j x hj hx => ?_⟩
        · omega
        · simp (maxDischargeDepth := 30) only [f0, amL, args0, Nat.reduceEqDiff, reduceCtorEq, ↓reduceIte, Nat.reduceAdd, resultsA, results1, Int.reduceNeg, splice, Nat.reduceLeDiff, part, fillA, fillE, Nat.reduceLT]
        · simp (maxDischargeDepth := 30) only [f3, amL, args0, Nat.reduceEqDiff, reduceCtorEq, ↓reduceIte, Nat.reduceAdd, resultsA, results1, Int.reduceNeg, splice, Nat.reduceLeDiff, part, fillA, fillE, Nat.reduceLT]
        · simp (maxDischargeDepth := 30) only [f4, amL, args0, Nat.reduceEqDiff, reduceCtorEq, ↓reduceIte, Nat.reduceAdd, resultsA, results1, Int.reduceNeg, splice, Nat.reduceLeDiff, part, fillA, fillE, Nat.reduceLT]
        · simp (maxDischargeDepth := 30) only [f22, amL, args0, Nat.reduceEqDiff, reduceCtorEq, ↓reduceIte, Nat.reduceAdd, resultsA, results1, Int.reduceNeg, splice, Nat.reduceLeDiff, part, fillA, fillE, Nat.reduceLT]
        · simp (maxDischargeDepth := 30) only [f23, amL, args0, Nat.reduceEqDiff, reduceCtorEq, ↓reduceIte, Nat.reduceAdd, resultsA, results1, Int.reduceNeg, splice, Nat.reduceLeDiff, part, fillA, fillE, Nat.reduceLT]
        · simp (maxDischargeDepth := 30) only [amL, args0, Nat.reduceEqDiff, reduceCtorEq, ↓reduceIte, Nat.reduceAdd, resultsA, results1, Int.reduceNeg, splice, Nat.reduceLeDiff, part, fillA, fillE, Nat.reduceLT]
        · by_cases e : j = i
          · rw [e, hr] at hx; cases hx; exact hsn
          · exact hdone j x (by omega) hx
      | false =>
        rw [hsn] at ldS
        have stS := store_own (n := 1) (len := n) (cap := n) (z := 1) (ex := true) (x := .bool true) hM.se (boolF_get hrn) rfl rfl rfl
        simp only [V.cells, boolF_set] at stS
        have hM1 := hM.setS (f := upd s.seen r true)
        simp (maxDischargeDepth := 30) only [h, f0, f3, f4, f22, f23, f24, ix, ld, ixS, ldS, stS, amL, args0, Nat.reduceEqDiff, reduceCtorEq, ↓reduceIte, Nat.reduceAdd, resultsA, results1, Int.reduceNeg, splice, Nat.reduceLeDiff, part, fillA, fillE, Nat.reduceLT]
        generalize hMM : M.set m.length (.cells true (boolF n (upd s.seen r true))) = M1 at *
        have hIr := hI.start hcs (List.mem_of_getElem? hr) hrn hsn
        have hMl : m.length + 1 ≤ M1.length := by have := (List.getElem?_eq_some_iff.1 hM1.se).1; omega
        have hOM : OM m (M1 ++ [Blk.cells true [[V.int .i64 (r : Int), V.int .i64 0]]]) n ⟨upd s.seen r true, s.out, [(r, 0)]⟩ ov (.slice M1.length 0 1 1 true 2) :=
          ⟨getElem?_grow hM1.se, hM1.o.app, .inr ⟨M1.length, true, [[V.int .i64 (r : Int), V.int .i64 0]], hMl, rfl, by simp, rfl⟩, fun x hx e => by have := (hM1.o.blk e).2; simp only [blkOf, Option.some.injEq] at hx; omega, hM1.gr.app⟩
        have hmono0 : ∀ x, s.seen x = true ∨ x = r → (OS.seen ⟨upd s.seen r true, s.out, [(r, 0)]⟩) x = true := fun x hx => by
          show upd s.seen r true x = true
          rcases hx with hx | rfl
          · unfold upd; split <;> simp [hx]
          · exact upd_self
        let J := fun (k : Nat) (fr : Frame) (M : Mem) => ∃ (s' : OS) (ov cv : V), k = OS.mu (toN N) n s' ∧ fr 0 = .ptr Nb 0 0 ∧ fr 3 = .slice m.length 0 n n true 1 ∧ fr 4 = ov ∧ fr 7 = cv ∧ fr 22 = rv ∧ fr 23 = .int .i64 src.length ∧ fr 24 = .int .i64 (i : Nat) ∧ OM m M n s' ov cv ∧ OI (toN N) src n s' ∧ ∀ x, s.seen x = true ∨ x = r → s'.seen x = true
        refine W_loop J ?_ (OS.mu (toN N) n ⟨upd s.seen r true, s.out, [(r, 0)]⟩) ?_
        · clear hM hM1 hIr hOM hmono0 ixS ldS stS hMl f0 f3 f4 f22 f23 f24 fr hMM M M1 ix ld hrM ov
          rintro k fr M ⟨s', ov, cv, rfl, f0, f3, f4, f7, f22, f23, f24, hM, hI, hmono⟩
          unfold graph_net_order_l1
          have hcl := hM.c.sl.len
          rw [encC_len] at hcl
          have hle := hI.len
          have r0 : List.replicate 0 Blk.dead = [] := rfl
          cases hcs : s'.calls with
          | nil =>
            rw [hcs, List.length_nil] at hcl
            have c0 : ¬ (0 : Int) < ((0 : Nat) : Int) := by simp
            simp (maxDischargeDepth := 30) only [f0, f3, f4, f7, f22, f23, f24, hcl, c0, w1, amL, args0, Nat.reduceEqDiff, reduceCtorEq, ↓reduceIte, Nat.reduceAdd, resultsA, results1, Int.reduceNeg, splice, Nat.reduceLeDiff, part, fillA, fillE, Nat.reduceLT]
            refine ⟨_, ?_, i + 1, s', ov, by omega, rfl, ?_, ?_, ?_, ?_, ?_, ?_, ⟨hM.se, hM.o, ?_, (fun x hx => by cases hx), hM.gr⟩, hI, hcs, fun j x hj hx => ?_⟩
            · omega
            · simp (maxDischargeDepth := 30) only [f0, amL, args0, Nat.reduceEqDiff, reduceCtorEq, ↓reduceIte, Nat.reduceAdd, resultsA, results1, Int.reduceNeg, splice, Nat.reduceLeDiff, part, fillA, fillE, Nat.reduceLT]
            · simp (maxDischargeDepth := 30) only [f3, amL, args0, Nat.reduceEqDiff, reduceCtorEq, ↓reduceIte, Nat.reduceAdd, resultsA, results1, Int.reduceNeg, splice, Nat.reduceLeDiff, part, fillA, fillE, Nat.reduceLT]
            · simp (maxDischargeDepth := 30) only [f4, amL, args0, Nat.reduceEqDiff, reduceCtorEq, ↓reduceIte, Nat.reduceAdd, resultsA, results1, Int.reduceNeg, splice, Nat.reduceLeDiff, part, fillA, fillE, Nat.reduceLT]
            · simp (maxDischargeDepth := 30) only [f22, amL, args0, Nat.reduceEqDiff, reduceCtorEq, ↓reduceIte, Nat.reduceAdd, resultsA, results1, Int.reduceNeg, splice, Nat.reduceLeDiff, part, fillA, fillE, Nat.reduceLT]
            · simp (maxDischargeDepth := 30) only [f23, amL, args0, Nat.reduceEqDiff, reduceCtorEq, ↓reduceIte, Nat.reduceAdd, resultsA, results1, Int.reduceNeg, splice, Nat.reduceLeDiff, part, fillA, fillE, Nat.reduceLT]
            · simp (maxDischargeDepth := 30) only [amL, args0, Nat.reduceEqDiff, reduceCtorEq, ↓reduceIte, Nat.reduceAdd, resultsA, results1, Int.reduceNeg, splice, Nat.reduceLeDiff, part, fillA, fillE, Nat.reduceLT]
            · rw [hcs]; exact .inl ⟨rfl, rfl⟩
            · by_cases e : j = i
              · rw [e, hr] at hx; cases hx; exact hmono _ (.inr rfl)
              · exact hmono _ (.inl (hdone j x (by omega) hx))
          | cons top rest =>
            obtain ⟨c, t⟩ := top
            rw [hcs, List.length_cons] at hcl hle
            have hgs := hM.c
            rw [hcs] at hgs
            have c0 : (0 : Int) < ((rest.length + 1 : Nat) : Int) := by omega
            have w0 : IntKind.i64.wrap (((rest.length + 1 : Nat) : Int) - 1) = (rest.length : Int) := by rw [wrap_i64] <;> omega
            have ixc := hgs.sl.index (ki := .i64) (n := rest.length) (by omega) (by rw [encC_len]; simp; omega)
            have ldc := fun o k => hgs.sl.load (o := o) (k := k) (encC_top (c := (c, t)) (l := rest))
            simp only [Int.toNat_natCast] at ixc
            have hcell : ∀ o, asPtr 0 (atp cv rest.length o) = some (atp cv rest.length o) := fun o => by rw [asPtr_atp]; rfl
            have ldN := fun j k => load_at0 (k := k) (j := j) (hM.gr.get hN)
            have hcn : c < n := hI.bnd c (by simp [OS.all, hcs])
            obtain ⟨nd, hnd⟩ : ∃ nd, N[c]? = some nd := ⟨_, List.getElem?_eq_getElem (by omega)⟩
            obtain ⟨_, els, hne, hel, hnds⟩ := hG.grow hM.gr
            obtain ⟨tv, hte, htv⟩ := hnds c nd hnd
            rw [hto c nd hnd] at htv
            have ixn := hne.index (ki := .i64) (n := c) (by omega) (by omega)
            have ldn := fun o k => hne.load (o := o) (k := k) hte
            simp only [Int.toNat_natCast] at ixn
            have htl := htv.len
            have htl2 : (i64s (ints' (toN N c))).length = (toN N c).length := by simp
            rw [htl2] at htl
            have htlen : t ≤ (toN N c).length := (hI.edge (c, t) (by rw [hcs]; simp)).1
            by_cases hdn : t = (toN N c).length
            · have hdone'' : ((t : Int) = ((toN N c).length : Int)) = True := eq_true (by omega)
              obtain ⟨ov1, M1, p1, p2, p3, p4, p5⟩ := (hM.o.app (g := [Blk.cells true [[V.int .i64 (c : Int)]]])).push (T := M.length) (own := true) (x := [V.int .i64 (c : Int)]) (zero := [.int .i64 0]) (bytes := 8) rfl (by simp) (by simp [roomy]; omega) (by have := hM.gr.len; have := (List.getElem?_eq_some_iff.1 hM.se).1; simp; omega)
              have hgs1 : GS (m.length + 1) M1 cv 2 (encC ((c, t) :: rest)) := (hgs.app (g := [Blk.cells true [[V.int .i64 (c : Int)]]])).keep fun x y hx hy => p3 x y (hM.ap x hx) hy
              obtain ⟨cv1, hc1, hc2, hc3⟩ := hgs1.cut (k := rest.length) (by rw [encC_len]; simp)
              have htk : (encC ((c, t) :: rest)).take rest.length = encC rest := by rw [encC_cons, List.take_left' encC_len]
              rw [htk] at hc2
              have hzc : zOk cv 2 = true := hgs1.sl.2
              simp (maxDischargeDepth := 30) only [f0, f3, f4, f7, f22, f23, f24, hcl, c0, w0, ixc, ldc, ldN, r0, List.append_nil, hcell, ixn, ldn, htl, hdone'', amL, args0, Nat.reduceEqDiff, reduceCtorEq, ↓reduceIte, Nat.reduceAdd, resultsA, results1, Int.reduceNeg, splice, Nat.reduceLeDiff, part, fillA, fillE, Nat.reduceLT]
              refine ⟨_, _, p1, ?_⟩
              simp (maxDischargeDepth := 30) only [f0, f3, f7, f22, f23, f24, hcl, w0, Option.map_none, hzc, hc1, amL, args0, Nat.reduceEqDiff, reduceCtorEq, ↓reduceIte, Nat.reduceAdd, resultsA, results1, Int.reduceNeg, splice, Nat.reduceLeDiff, part, fillA, fillE, Nat.reduceLT]
              refine ⟨_, OS.mu_pop hcs, _, ov1, cv1, rfl, ?_, ?_, ?_, ?_, ?_, ?_, ?_, ⟨p3 _ _ (fun e => by have := (hM.o.blk e).1; omega) (getElem?_grow hM.se), ?_, hc2, fun x hx e => ?_, Grow.keep' hM.gr.app fun x y hx hy => p3 x y (fun e => by have := (hM.o.blk e).1; omega) hy⟩, hI.pop hcs hdn, hmono⟩
              · simp (maxDischargeDepth := 30) only [f0, amL, args0, Nat.reduceEqDiff, reduceCtorEq, ↓reduceIte, Nat.reduceAdd, resultsA, results1, Int.reduceNeg, splice, Nat.reduceLeDiff, part, fillA, fillE, Nat.reduceLT]
              · simp (maxDischargeDepth := 30) only [f3, amL, args0, Nat.reduceEqDiff, reduceCtorEq, ↓reduceIte, Nat.reduceAdd, resultsA, results1, Int.reduceNeg, splice, Nat.reduceLeDiff, part, fillA, fillE, Nat.reduceLT]
              · simp (maxDischargeDepth := 30) only [amL, args0, Nat.reduceEqDiff, reduceCtorEq, ↓reduceIte, Nat.reduceAdd, resultsA, results1, Int.reduceNeg, splice, Nat.reduceLeDiff, part, fillA, fillE, Nat.reduceLT]
              · simp (maxDischargeDepth := 30) only [amL, args0, Nat.reduceEqDiff, reduceCtorEq, ↓reduceIte, Nat.reduceAdd, resultsA, results1, Int.reduceNeg, splice, Nat.reduceLeDiff, part, fillA, fillE, Nat.reduceLT]
              · simp (maxDischargeDepth := 30) only [f22, amL, args0, Nat.reduceEqDiff, reduceCtorEq, ↓reduceIte, Nat.reduceAdd, resultsA, results1, Int.reduceNeg, splice, Nat.reduceLeDiff, part, fillA, fillE, Nat.reduceLT]
              · simp (maxDischargeDepth := 30) only [f23, amL, args0, Nat.reduceEqDiff, reduceCtorEq, ↓reduceIte, Nat.reduceAdd, resultsA, results1, Int.reduceNeg, splice, Nat.reduceLeDiff, part, fillA, fillE, Nat.reduceLT]
              · simp (maxDischargeDepth := 30) only [f24, amL, args0, Nat.reduceEqDiff, reduceCtorEq, ↓reduceIte, Nat.reduceAdd, resultsA, results1, Int.reduceNeg, splice, Nat.reduceLeDiff, part, fillA, fillE, Nat.reduceLT]
              · have : nats (s'.out ++ [c]) = nats s'.out ++ [[V.int .i64 (c : Int)]] := by simp
                rw [this]; exact p2
              · rw [hc3] at hx
                rcases p4 with e4 | e4
                · rw [e4] at e; exact hM.ap x hx e
                · rw [e4] at e
                  have := (hgs.blk hx).2
                  simp at e; omega
            · have hdone'' : ¬ (t : Int) = ((toN N c).length : Int) := by omega
              obtain ⟨q, hq⟩ : ∃ q, (toN N c)[t]? = some q := ⟨_, List.getElem?_eq_getElem (by omega)⟩
              have hqn : q < n := hlt c q (List.mem_of_getElem? hq)
              have ixt := htv.index (ki := .i64) (n := t) (by omega) (by rw [htl2]; omega)
              have ldt := fun o k => htv.load (o := o) (k := k) (i := t) (el := [.int .i64 (q : Int)]) (by simp [hq])
              have hfit : (toN N c).length < 2 ^ 60 := by
                have h1 := hf.2.2 nd (List.mem_of_getElem? hnd)
                rw [hto c nd hnd] at h1
                simpa using h1
              have wt : IntKind.i64.wrap ((t : Int) + 1) = ((t + 1 : Nat) : Int) := by rw [wrap_i64] <;> omega
              obtain ⟨M1, b1, y1, hb1, hM1, st1, hgs1⟩ := hgs.store (n := 1) (j := 1) (x := .int .i64 ((t + 1 : Nat) : Int)) (encC_top (c := (c, t)) (l := rest)) (by simp) rfl rfl
              have e1 : (encC ((c, t) :: rest)).set rest.length (splice [V.int .i64 (c : Int), V.int .i64 (t : Int)] 1 (V.int .i64 ((t + 1 : Nat) : Int)).cells) = encC ((c, t + 1) :: rest) := by
                rw [encC_cons, encC_cons, List.set_append_right _ _ (by rw [encC_len]; exact Nat.le_refl _), encC_len, Nat.sub_self]
                rfl
              rw [e1] at hgs1
              have hbB := (hgs.blk hb1).1
              have hne1 := hM.ap b1 hb1
              have hOM1 : OM m M1 n ⟨s'.seen, s'.out, (c, t + 1) :: rest⟩ ov cv := by
                refine ⟨by rw [hM1]; exact set_get (by omega) hM.se, ?_, hgs1, hM.ap, by rw [hM1]; exact hM.gr.set (by omega) _⟩
                rw [hM1]
                exact hM.o.keep fun x y hx hy => set_get (fun e => hne1 (e ▸ hx)) hy
              have ixS := hOM1.slS.index (ki := .i64) (n := q) (by omega) (by rw [boolF_len]; omega)
              have ldS := fun o k => hOM1.slS.load (o := o) (k := k) (boolF_get hqn)
              simp only [Int.toNat_natCast] at ixt ixS
              cases hsq : s'.seen q with
              | true =>
                have ldS : ∀ o k, loadV M1 k (atp (.slice m.length 0 n n true 1) q o) = part [V.bool true] o k := fun o k => by rw [ldS]; show part [V.bool (s'.seen q)] o k = _; rw [hsq]
                simp (maxDischargeDepth := 30) only [f0, f3, f4, f7, f22, f23, f24, hcl, c0, w0, ixc, ldc, ldN, r0, List.append_nil, hcell, ixn, ldn, htl, hdone'', ixt, ldt, wt, st1, ixS, ldS, Bool.not_true, amL, args0, Nat.reduceEqDiff, reduceCtorEq, ↓reduceIte, Nat.reduceAdd, resultsA, results1, Int.reduceNeg, splice, Nat.reduceLeDiff, part, fillA, fillE, Nat.reduceLT]
                refine ⟨_, OS.mu_skip hcs hq, _, ov, cv, rfl, ?_, ?_, ?_, ?_, ?_, ?_, ?_, hOM1, hI.skip hcs hq hsq, hmono⟩
                · simp (maxDischargeDepth := 30) only [f0, amL, args0, Nat.reduceEqDiff, reduceCtorEq, ↓reduceIte, Nat.reduceAdd, resultsA, results1, Int.reduceNeg, splice, Nat.reduceLeDiff, part, fillA, fillE, Nat.reduceLT]
                · simp (maxDischargeDepth := 30) only [f3, amL, args0, Nat.reduceEqDiff, reduceCtorEq, ↓reduceIte, Nat.reduceAdd, resultsA, results1, Int.reduceNeg, splice, Nat.reduceLeDiff, part, fillA, fillE, Nat.reduceLT]
                · simp (maxDischargeDepth := 30) only [f4, amL, args0, Nat.reduceEqDiff, reduceCtorEq, ↓reduceIte, Nat.reduceAdd, resultsA, results1, Int.reduceNeg, splice, Nat.reduceLeDiff, part, fillA, fillE, Nat.reduceLT]
                · simp (maxDischargeDepth := 30) only [f7, amL, args0, Nat.reduceEqDiff, reduceCtorEq, ↓reduceIte, Nat.reduceAdd, resultsA, results1, Int.reduceNeg, splice, Nat.reduceLeDiff, part, fillA, fillE, Nat.reduceLT]
                · simp (maxDischargeDepth := 30) only [f22, amL, args0, Nat.reduceEqDiff, reduceCtorEq, ↓reduceIte, Nat.reduceAdd, resultsA, results1, Int.reduceNeg, splice, Nat.reduceLeDiff, part, fillA, fillE, Nat.reduceLT]
                · simp (maxDischargeDepth := 30) only [f23, amL, args0, Nat.reduceEqDiff, reduceCtorEq, ↓reduceIte, Nat.reduceAdd, resultsA, results1, Int.reduceNeg, splice, Nat.reduceLeDiff, part, fillA, fillE, Nat.reduceLT]
                · simp (maxDischargeDepth := 30) only [f24, amL, args0, Nat.reduceEqDiff, reduceCtorEq, ↓reduceIte, Nat.reduceAdd, resultsA, results1, Int.reduceNeg, splice, Nat.reduceLeDiff, part, fillA, fillE, Nat.reduceLT]
              | false =>
                have ldS : ∀ o k, loadV M1 k (atp (.slice m.length 0 n n true 1) q o) = part [V.bool false] o k := fun o k => by rw [ldS]; show part [V.bool (s'.seen q)] o k = _; rw [hsq]
                have stS := store_own (n := 1) (len := n) (cap := n) (z := 1) (ex := true) (x := .bool true) hOM1.se (boolF_get hqn) rfl rfl rfl
                simp only [V.cells, boolF_set] at stS
                have hOM2 := hOM1.setS (f := upd s'.seen q true)
                generalize hMM : M1.set m.length (.cells true (boolF n (upd s'.seen q true))) = M2 at *
                have hMl : m.length + 1 ≤ M2.length := by have := (List.getElem?_eq_some_iff.1 hOM2.se).1; omega
                have hgs2 : GS (m.length + 1) M2 cv 2 (encC ((c, t + 1) :: rest)) := hOM2.c
                obtain ⟨cv3, M3, p1, p2, p3, p4, p5⟩ := (hgs2.app (g := [Blk.cells true [[V.int .i64 (q : Int), V.int .i64 0]]])).push (T := M2.length) (own := true) (x := [V.int .i64 (q : Int), V.int .i64 0]) (zero := [.int .i64 0, .int .i64 0]) (bytes := 16) rfl (by simp) (by rw [encC_len]; simp [roomy]; omega) (by simp; omega)
                simp (maxDischargeDepth := 30) only [f0, f3, f4, f7, f22, f23, f24, hcl, c0, w0, ixc, ldc, ldN, r0, List.append_nil, hcell, ixn, ldn, htl, hdone'', ixt, ldt, wt, st1, ixS, ldS, stS, Bool.not_false, amL, args0, Nat.reduceEqDiff, reduceCtorEq, ↓reduceIte, Nat.reduceAdd, resultsA, results1, Int.reduceNeg, splice, Nat.reduceLeDiff, part, fillA, fillE, Nat.reduceLT]
                refine ⟨_, _, p1, ?_⟩
                refine ⟨_, OS.mu_push hcs hq hqn hsq, _, ov, cv3, rfl, ?_, ?_, ?_, ?_, ?_, ?_, ?_, ⟨p3 _ _ (fun e => by have := (hgs2.blk e).1; omega) (getElem?_grow hOM2.se), ?_, ?_, fun x hx e => ?_, Grow.keep' hOM2.gr.app fun x y hx hy => p3 x y (fun e => by have := (hgs2.blk e).1; omega) hy⟩, hI.push hcs hq hqn hsq, fun x hx => ?_⟩
                · simp (maxDischargeDepth := 30) only [f0, amL, args0, Nat.reduceEqDiff, reduceCtorEq, ↓reduceIte, Nat.reduceAdd, resultsA, results1, Int.reduceNeg, splice, Nat.reduceLeDiff, part, fillA, fillE, Nat.reduceLT]
                · simp (maxDischargeDepth := 30) only [f3, amL, args0, Nat.reduceEqDiff, reduceCtorEq, ↓reduceIte, Nat.reduceAdd, resultsA, results1, Int.reduceNeg, splice, Nat.reduceLeDiff, part, fillA, fillE, Nat.reduceLT]
                · simp (maxDischargeDepth := 30) only [f4, amL, args0, Nat.reduceEqDiff, reduceCtorEq, ↓reduceIte, Nat.reduceAdd, resultsA, results1, Int.reduceNeg, splice, Nat.reduceLeDiff, part, fillA, fillE, Nat.reduceLT]
                · simp (maxDischargeDepth := 30) only [amL, args0, Nat.reduceEqDiff, reduceCtorEq, ↓reduceIte, Nat.reduceAdd, resultsA, results1, Int.reduceNeg, splice, Nat.reduceLeDiff, part, fillA, fillE, Nat.reduceLT]
                · simp (maxDischargeDepth := 30) only [f22, amL, args0, Nat.reduceEqDiff, reduceCtorEq, ↓reduceIte, Nat.reduceAdd, resultsA, results1, Int.reduceNeg, splice, Nat.reduceLeDiff, part, fillA, fillE, Nat.reduceLT]
                · simp (maxDischargeDepth := 30) only [f23, amL, args0, Nat.reduceEqDiff, reduceCtorEq, ↓reduceIte, Nat.reduceAdd, resultsA, results1, Int.reduceNeg, splice, Nat.reduceLeDiff, part, fillA, fillE, Nat.reduceLT]
                · simp (maxDischargeDepth := 30) only [f24, amL, args0, Nat.reduceEqDiff, reduceCtorEq, ↓reduceIte, Nat.reduceAdd, resultsA, results1, Int.reduceNeg, splice, Nat.reduceLeDiff, part, fillA, fillE, Nat.reduceLT]
                · exact (hOM2.o.app (g := [Blk.cells true [[V.int .i64 (q : Int), V.int .i64 0]]])).keep fun x y hx hy => p3 x y (fun e => hM.ap x e hx) hy
                · rw [encC_cons]; exact p2
                · rcases p4 with e4 | e4
                  · rw [e4] at hx; exact hM.ap x hx e
                  · rw [e4] at hx
                    have := (hOM2.o.blk e).2
                    simp at hx; omega
                · have := hmono x hx
                  show upd s'.seen q true x = true
                  unfold upd; split <;> simp [this]
        · refine ⟨_, ov, _, rfl, ?_, ?_, ?_, ?_, ?_, ?_, ?_, hOM, hIr, hmono0⟩
          · simp (maxDischargeDepth := 30) only [f0, amL, args0, Nat.reduceEqDiff, reduceCtorEq, ↓reduceIte, Nat.reduceAdd, resultsA, results1, Int.reduceNeg, splice, Nat.reduceLeDiff, part, fillA, fillE, Nat.reduceLT]
          · simp (maxDischargeDepth := 30) only [f3, amL, args0, Nat.reduceEqDiff, reduceCtorEq, ↓reduceIte, Nat.reduceAdd, resultsA, results1, Int.reduceNeg, splice, Nat.reduceLeDiff, part, fillA, fillE, Nat.reduceLT]
          · simp (maxDischargeDepth := 30) only [f4, amL, args0, Nat.reduceEqDiff, reduceCtorEq, ↓reduceIte, Nat.reduceAdd, resultsA, results1, Int.reduceNeg, splice, Nat.reduceLeDiff, part, fillA, fillE, Nat.reduceLT]
          · simp (maxDischargeDepth := 30) only [amL, args0, Nat.reduceEqDiff, reduceCtorEq, ↓reduceIte, Nat.reduceAdd, resultsA, results1, Int.reduceNeg, splice, Nat.reduceLeDiff, part, fillA, fillE, Nat.reduceLT]
          · simp (maxDischargeDepth := 30) only [f22, amL, args0, Nat.reduceEqDiff, reduceCtorEq, ↓reduceIte, Nat.reduceAdd, resultsA, results1, Int.reduceNeg, splice, Nat.reduceLeDiff, part, fillA, fillE, Nat.reduceLT]
          · simp (maxDischargeDepth := 30) only [f23, amL, args0, Nat.reduceEqDiff, reduceCtorEq, ↓reduceIte, Nat.reduceAdd, resultsA, results1, Int.reduceNeg, splice, Nat.reduceLeDiff, part, fillA, fillE, Nat.reduceLT]
          · simp (maxDischargeDepth := 30) only [f24, amL, args0, Nat.reduceEqDiff, reduceCtorEq, ↓reduceIte, Nat.reduceAdd, resultsA, results1, Int.reduceNeg, splice, Nat.reduceLeDiff, part, fillA, fillE, Nat.reduceLT]
    · have hii : i = src.length := by omega
      subst hii
      have hol := hI.len
      simp (maxDischargeDepth := 30) only [h, f0, f3, f4, f22, f23, f24, amL, args0, Nat.reduceEqDiff, reduceCtorEq, ↓reduceIte, Nat.reduceAdd, resultsA, results1, Int.reduceNeg, splice, Nat.reduceLeDiff, part, fillA, fillE, Nat.reduceLT]
      refine (GS_reverse hM.o (by omega)).mono ?_
      rintro _ M' ⟨hr1, hr2⟩
      simp (maxDischargeDepth := 30) only [aft_mk, f4, amL, args0, Nat.reduceEqDiff, reduceCtorEq, ↓reduceIte, Nat.reduceAdd, resultsA, results1, Int.reduceNeg, splice, Nat.reduceLeDiff, part, fillA, fillE, Nat.reduceLT]
      refine ⟨Grow.keep' hM.gr fun x y hx hy => hr2 x y (by omega) hy, s.out.reverse, ?_, hI.ord hcs fun r hr => ?_⟩
      · rcases hr1 with h1 | ⟨b, ex, els, h1, h2⟩
        · exact .inl h1
        · exact .inr ⟨b, ex, els, by omega, h2⟩
      · obtain ⟨j, hj⟩ := List.getElem?_of_mem hr
        exact hdone j r (List.getElem?_eq_some_iff.1 hj).1 hj
  · refine ⟨0, ⟨fun _ => false, [], []⟩, .nils, Nat.zero_le _, rfl, by simp (maxDischargeDepth := 30) only [amL, args0, Nat.reduceEqDiff, reduceCtorEq, ↓reduceIte, Nat.reduceAdd, resultsA, results1, Int.reduceNeg, splice, Nat.reduceLeDiff, part, fillA, fillE, Nat.reduceLT], by simp (maxDischargeDepth := 30) only [amL, args0, Nat.reduceEqDiff, reduceCtorEq, ↓reduceIte, Nat.reduceAdd, resultsA, results1, Int.reduceNeg, splice, Nat.reduceLeDiff, part, fillA, fillE, Nat.reduceLT], by simp (maxDischargeDepth := 30) only [amL, args0, Nat.reduceEqDiff, reduceCtorEq, ↓reduceIte, Nat.reduceAdd, resultsA, results1, Int.reduceNeg, splice, Nat.reduceLeDiff, part, fillA, fillE, Nat.reduceLT], by simp (maxDischargeDepth := 30) only [amL, args0, Nat.reduceEqDiff, reduceCtorEq, ↓reduceIte, Nat.reduceAdd, resultsA, results1, Int.reduceNeg, splice, Nat.reduceLeDiff, part, fillA, fillE, Nat.reduceLT], by simp (maxDischargeDepth := 30) only [amL, args0, Nat.reduceEqDiff, reduceCtorEq, ↓reduceIte, Nat.reduceAdd, resultsA, results1, Int.reduceNeg, splice, Nat.reduceLeDiff, part, fillA, fillE, Nat.reduceLT], by simp (maxDischargeDepth := 30) only [amL, args0, Nat.reduceEqDiff, reduceCtorEq, ↓reduceIte, Nat.reduceAdd, resultsA, results1, Int.reduceNeg, splice, Nat.reduceLeDiff, part, fillA, fillE, Nat.reduceLT]; rfl, ⟨?_, .inl ⟨rfl, rfl⟩, .inl ⟨rfl, rfl⟩, (fun x hx => by cases hx), (Grow.refl _).app⟩, ⟨List.nodup_nil, fun x => by simp [OS.all], fun x hx => by simp [OS.all] at hx, fun x hx => by simp [OS.all] at hx, fun c hc => by simp at hc, fun x hx => by simp at hx, trivial⟩, rfl, fun j r hj => absurd hj (Nat.not_lt_zero _)⟩
    rw [boolF_zero]; simp
end Go.AM.G


set_option maxRecDepth 100000
namespace Go.AM.G
open Go Go.AM
def vF (n : Nat) (tv : Nat → V) : List (List V) := (List.range n).map fun p => [tv p]
theorem vF_len {n : Nat} {f : Nat → V} : (vF n f).length = n := by simp [vF]
theorem vF_get {n p : Nat} {f : Nat → V} (h : p < n) : (vF n f)[p]? = some [f p] := by simp [vF, h]
theorem vF_set {n p : Nat} {v : V} {f : Nat → V} : (vF n f).set p [v] = vF n (upd f p v) := by
  apply List.ext_getElem?
  intro i
  by_cases hi : i < n
  · by_cases e : p = i
    · subst e
      rw [List.getElem?_set_self (by rw [vF_len]; exact hi), vF_get hi, upd_self]
    · rw [List.getElem?_set_ne e, vF_get hi, vF_get hi, upd_ne (Ne.symm e)]
  · rw [List.getElem?_eq_none (by simp [vF_len]; omega), List.getElem?_eq_none (by simp [vF_len]; omega)]
theorem vF_nils {n : Nat} : List.replicate n [V.nils] = vF n (fun _ => .nils) := by
  apply List.ext_getElem?
  intro i
  by_cases h : i < n
  · rw [vF_get h]; simp [h]
  · rw [List.getElem?_eq_none (by simp; omega), List.getElem?_eq_none (by rw [vF_len]; omega)]
/-- a row of rows that grow. -/
structure FM (B F : Nat) (M : Mem) (k : Nat) (tv : Nat → V) (ls : Nat → List Nat) : Prop where
  fb : M[F]? = some (.cells true (vF k tv))
  lt : F < B
  bl : B ≤ M.length
  g : ∀ p, p < k → GS B M (tv p) 1 (nats (ls p))
  ap : ∀ p q, p < k → q < k → p ≠ q → ∀ x, blkOf (tv p) = some x → blkOf (tv q) ≠ some x
section
variable {B F k : Nat} {M : Mem} {tv : Nat → V} {ls : Nat → List Nat}
theorem FM.sl (h : FM B F M k tv ls) : Sl M (.slice F 0 k k true 1) 1 (vF k tv) := by have := Sl.mk (cap := k) (ex := true) (z := 1) h.fb; rwa [vF_len] at this
theorem FM.keep {M' : Mem} (h : FM B F M k tv ls) (hl : M.length ≤ M'.length) (hk : ∀ c y, (c = F ∨ B ≤ c) → M[c]? = some y → M'[c]? = some y) : FM B F M' k tv ls :=
  ⟨hk _ _ (.inl rfl) h.fb, h.lt, by have := h.bl; omega, fun p hp => (h.g p hp).keep fun c y hc hy => hk c y (.inr ((h.g p hp).blk hc).1) hy, h.ap⟩
theorem FM.app {g : Mem} (h : FM B F M k tv ls) : FM B F (M ++ g) k tv ls := h.keep (by simp) fun _ _ _ hy => getElem?_grow hy
theorem FM.set {b : Nat} {x : Blk} (h : FM B F M k tv ls) (hb : b < B) (hF : b ≠ F) : FM B F (M.set b x) k tv ls := h.keep (by simp) fun c y hc hy => set_get (by rcases hc with rfl | hc; exact hF; omega) hy
theorem FM.push (h : FM B F M k tv ls) {q : Nat} (hq : q < k) (x : Nat) (hr : (ls q).length < 1000000000) : ∃ u' M', appendV (M ++ [Blk.cells true [[V.int .i64 (x : Int)]]]) [.int .i64 0] 8 (tv q) (.slice M.length 0 1 1 true 1) = some (u', M') ∧ u'.cells = [u'] ∧ u'.isCell = true ∧ storeV M' 1 (atp (.slice F 0 k k true 1) q 0) u' = some (M'.set F (.cells true (vF k (upd tv q u')))) ∧ FM B F (M'.set F (.cells true (vF k (upd tv q u')))) k (upd tv q u') (upd ls q (ls q ++ [x])) ∧ ∀ c y, c < B → c ≠ F → M[c]? = some y → (M'.set F (.cells true (vF k (upd tv q u'))))[c]? = some y := by
  have hbl := h.bl
  have hlt := h.lt
  obtain ⟨u', M', p1, p2, p3, p4, p5⟩ := ((h.g q hq).app (g := [Blk.cells true [[V.int .i64 (x : Int)]]])).push (T := M.length) (own := true) (x := [V.int .i64 (x : Int)]) (zero := [.int .i64 0]) (bytes := 8) rfl (by simp) (by simp [roomy]; omega) (by simp; omega)
  have hc := p2.sl.cell
  have hk : ∀ c y, blkOf (tv q) ≠ some c → M[c]? = some y → M'[c]? = some y := fun c y hc hy => p3 c y hc (getElem?_grow hy)
  have hF : M'[F]? = some (.cells true (vF k tv)) := hk _ _ (fun e => by have := ((h.g q hq).blk e).1; omega) h.fb
  have st := store_own (n := 1) (len := k) (cap := k) (z := 1) (ex := true) (x := u') hF (vF_get hq) rfl (by rw [cells_cell hc]; rfl) (by rw [cells_cell hc]; simp [hc])
  rw [cells_cell hc, vF_set] at st
  have hcs : ∀ p, p < k → p ≠ q → ∀ c, blkOf (tv p) = some c → blkOf u' ≠ some c := fun p hp hne c e1 e2 => by
    rcases p4 with e | e
    · rw [e] at e2; exact h.ap p q hp hq hne c e1 e2
    · rw [e] at e2
      have := ((h.g p hp).blk e1).2
      simp at e2; omega
  refine ⟨u', M', p1, cells_cell hc, hc, st, ⟨set_self' hF, hlt, by simp at p5 ⊢; omega, fun p hp => ?_, fun p r hp hr' hne c e1 => ?_⟩, fun c y hcB hcF hy => set_get (Ne.symm hcF) (hk c y (fun e => by have := ((h.g q hq).blk e).1; omega) hy)⟩
  · by_cases e : p = q
    · subst e
      rw [upd_self, upd_self]
      have : nats (ls p ++ [x]) = nats (ls p) ++ [[V.int .i64 (x : Int)]] := by simp
      rw [this]
      exact p2.keep fun c y hc hy => set_get (by have := (p2.blk hc).1; omega) hy
    · rw [upd_ne e, upd_ne e]
      exact (h.g p hp).keep fun c y hc' hy => set_get (by have := ((h.g p hp).blk hc').1; omega) (hk c y (h.ap p q hp hq e c hc') hy)
  · by_cases ep : p = q
    · subst ep
      rw [upd_self] at e1
      rw [upd_ne (Ne.symm hne)]
      exact fun e2 => hcs r hr' (Ne.symm hne) c e2 e1
    · rw [upd_ne ep] at e1
      by_cases er : r = q
      · subst er; rw [upd_self]; exact hcs p hp ep c e1
      · rw [upd_ne er]; exact h.ap p r hp hr' hne c e1
end
/-- how an up is told. -/
def encU (up : Nat → Nat) (set : Nat → Bool) (x : Nat) : Int := if set x then up x else -2
/-- the boxes of ranks and ups. -/
structure UM (br Pr bu Pu : Nat) (capr capu : Nat) (exr exu : Bool) (M : Mem) (k : Nat) (rkI : Nat → Int) (up : Nat → Nat) (set : Nat → Bool) : Prop where
  r : M[br]? = some (.cells true (intF (k + 1) rkI))
  pr : M[Pr]? = some (.cells true [[.slice br 0 (k + 1) capr exr 1]])
  u : M[bu]? = some (.cells true (intF (k + 1) (encU up set)))
  pu : M[Pu]? = some (.cells true [[.slice bu 0 (k + 1) capu exu 1]])
  cu : k + 1 ≤ capu
section
variable {br Pr bu Pu capr capu : Nat} {exr exu : Bool} {M : Mem} {k : Nat} {rkI : Nat → Int} {up : Nat → Nat} {set : Nat → Bool}
theorem UM.slR (h : UM br Pr bu Pu capr capu exr exu M k rkI up set) : Sl M (.slice br 0 (k + 1) capr exr 1) 1 (intF (k + 1) rkI) := by have := Sl.mk (cap := capr) (ex := exr) (z := 1) h.r; rwa [intF_len] at this
theorem UM.slU (h : UM br Pr bu Pu capr capu exr exu M k rkI up set) : Sl M (.slice bu 0 (k + 1) capu exu 1) 1 (intF (k + 1) (encU up set)) := by have := Sl.mk (cap := capu) (ex := exu) (z := 1) h.u; rwa [intF_len] at this
/-- what two agree on. -/
theorem meet_spec {h : HC} {i a b : Nat} (hU : UM br Pr bu Pu capr capu exr exu M k rkI up set) (H : HI h up set i) (R : HR h) (hk : h.k = k) (hkn : k ≤ 4096) (hrk : ∀ x, x ∈ h.L ∨ x = k → rkI x = (h.rk x : Int) - 1) (ha : set a = true) (hb : set b = true) :
    C S n_graph_net_holders_1 [.int .i64 a, .int .i64 b, .ptr Pr 0 0, .ptr Pu 0 0] M (fun r M' => M' = M ∧ ∃ c : Nat, r = .int .i64 c ∧ An h.k up a c ∧ An h.k up b c ∧ ∀ y, An h.k up a y → An h.k up b y → An h.k up c y) := by
  refine C_body rfl rfl rfl ?_
  unfold graph_net_holders_1
  have r0 : List.replicate 0 Blk.dead = [] := rfl
  simp (maxDischargeDepth := 30) only [amL, args0, Nat.reduceEqDiff, reduceCtorEq, ↓reduceIte, Nat.reduceAdd, resultsA, results1, Int.reduceNeg, splice, Nat.reduceLeDiff, part, fillA, fillE, Nat.reduceLT]
  have lR := fun k => load_at0 (k := k) (j := 0) hU.pr
  have lU := fun k => load_at0 (k := k) (j := 0) hU.pu
  have hle : ∀ x, set x = true → x ≤ k := fun x hx => by
    rcases H.mem x hx with h1 | h1
    · have := R.lt x h1; omega
    · omega
  have hrk' : ∀ x, set x = true → rkI x = (h.rk x : Int) - 1 := fun x hx => hrk x (by have := H.mem x hx; rwa [hk] at this)
  have ixR : ∀ x : Nat, set x = true → asIndex 1 (.slice br 0 (k + 1) capr exr 1) (.int .i64 x) = some (atp (.slice br 0 (k + 1) capr exr 1) x 0) := fun x hx => by
    have := hU.slR.index (ki := .i64) (n := x) (by omega) (by rw [intF_len]; have := hle x hx; omega)
    simpa using this
  have ldR : ∀ x : Nat, set x = true → ∀ o k', loadV M k' (atp (.slice br 0 (k + 1) capr exr 1) x o) = part [.int .i64 ((h.rk x : Int) - 1)] o k' := fun x hx o k' => by
    rw [← hrk' x hx]
    exact hU.slR.load (intF_get (by have := hle x hx; omega))
  have ixU : ∀ x : Nat, set x = true → asIndex 1 (.slice bu 0 (k + 1) capu exu 1) (.int .i64 x) = some (atp (.slice bu 0 (k + 1) capu exu 1) x 0) := fun x hx => by
    have := hU.slU.index (ki := .i64) (n := x) (by omega) (by rw [intF_len]; have := hle x hx; omega)
    simpa using this
  have ldU : ∀ x : Nat, set x = true → ∀ o k', loadV M k' (atp (.slice bu 0 (k + 1) capu exu 1) x o) = part [.int .i64 (up x : Nat)] o k' := fun x hx o k' => by
    have : encU up set x = (up x : Nat) := by unfold encU; rw [if_pos hx]
    rw [← this]
    exact hU.slU.load (intF_get (by have := hle x hx; omega))
  -- one goes up while it is behind the other
  have hgo : ∀ x y, set x = true → set y = true → h.rk y < h.rk x → x ∈ h.L ∧ set (up x) = true ∧ h.rk (up x) < h.rk x ∧ An h.k up x (up x) ∧ ∀ z, An h.k up x z → An h.k up y z → An h.k up (up x) z := by
    intro x y hx hy hlt
    rcases H.mem x hx with h1 | h1
    · obtain ⟨h2, h3⟩ := H.up_set x h1 hx
      refine ⟨h1, h2, h3, .step (R.lt x h1) (.refl _), fun z hxz hyz => ?_⟩
      rcases hxz.cases' with rfl | ⟨_, g⟩
      · have := (H.rk_le R hyz hy).2.1; omega
      · exact g
    · have := R.rkk
      rw [h1] at hlt; omega
  let I := fun (n : Nat) (fr : Frame) (M' : Mem) => ∃ x y : Nat, n = h.rk x + h.rk y ∧ M' = M ∧ fr 0 = .int .i64 x ∧ fr 1 = .int .i64 y ∧ fr 2 = .ptr Pr 0 0 ∧ fr 3 = .ptr Pu 0 0 ∧ set x = true ∧ set y = true ∧ An h.k up a x ∧ An h.k up b y ∧ ∀ z, An h.k up a z → An h.k up b z → An h.k up x z ∧ An h.k up y z
  refine W_loop I ?_ (h.rk a + h.rk b) ?_
  · rintro n fr M' ⟨x, y, rfl, hMM, f0, f1, f2, f3, hx, hy, hax, hby, hz⟩
    subst hMM
    unfold graph_net_holders_1_l0
    by_cases hxy : (x : Int) = y
    · have hxy' : x = y := by omega
      subst hxy'
      have c0 : ¬ ¬ (x : Int) = x := fun e => e rfl
      simp (maxDischargeDepth := 30) only [f0, f1, f2, f3, c0, amL, args0, Nat.reduceEqDiff, reduceCtorEq, ↓reduceIte, Nat.reduceAdd, resultsA, results1, Int.reduceNeg, splice, Nat.reduceLeDiff, part, fillA, fillE, Nat.reduceLT]
      exact ⟨x, rfl, hax, hby, fun z h1 h2 => (hz z h1 h2).1⟩
    simp (maxDischargeDepth := 30) only [f0, f1, f2, f3, hxy, amL, args0, Nat.reduceEqDiff, reduceCtorEq, ↓reduceIte, Nat.reduceAdd, resultsA, results1, Int.reduceNeg, splice, Nat.reduceLeDiff, part, fillA, fillE, Nat.reduceLT]
    let J := fun (n : Nat) (fr : Frame) (M'' : Mem) => ∃ x' : Nat, n = h.rk x' ∧ M'' = M' ∧ fr 0 = .int .i64 x' ∧ fr 1 = .int .i64 y ∧ fr 2 = .ptr Pr 0 0 ∧ fr 3 = .ptr Pu 0 0 ∧ set x' = true ∧ An h.k up a x' ∧ (∀ z, An h.k up a z → An h.k up b z → An h.k up x' z ∧ An h.k up y z) ∧ (x' = x ∨ h.rk x' < h.rk x)
    refine W_loop J ?_ (h.rk x) ?_
    · clear f0 f1 f2 f3 fr
      rintro n fr M'' ⟨x', rfl, hMM2, f0, f1, f2, f3, hx', hax', hz', hlt⟩
      subst hMM2
      unfold graph_net_holders_1_l1
      by_cases hgt : (h.rk y : Int) - 1 < (h.rk x' : Int) - 1
      · obtain ⟨g1, g2, g3, g4, g5⟩ := hgo x' y hx' hy (by omega)
        simp (maxDischargeDepth := 30) only [f0, f1, f2, f3, lR, lU, ixR x' hx', ldR x' hx', ixR y hy, ldR y hy, hgt, ixU x' hx', ldU x' hx', r0, List.append_nil, amL, args0, Nat.reduceEqDiff, reduceCtorEq, ↓reduceIte, Nat.reduceAdd, resultsA, results1, Int.reduceNeg, splice, Nat.reduceLeDiff, part, fillA, fillE, Nat.reduceLT]
        refine ⟨_, g3, up x', rfl, rfl, ?_, ?_, ?_, ?_, g2, hax'.trans g4, fun z h1 h2 => ⟨g5 z (hz' z h1 h2).1 (hz' z h1 h2).2, (hz' z h1 h2).2⟩, ?_⟩
        · simp (maxDischargeDepth := 30) only [amL, args0, Nat.reduceEqDiff, reduceCtorEq, ↓reduceIte, Nat.reduceAdd, resultsA, results1, Int.reduceNeg, splice, Nat.reduceLeDiff, part, fillA, fillE, Nat.reduceLT]
        · simp (maxDischargeDepth := 30) only [f1, amL, args0, Nat.reduceEqDiff, reduceCtorEq, ↓reduceIte, Nat.reduceAdd, resultsA, results1, Int.reduceNeg, splice, Nat.reduceLeDiff, part, fillA, fillE, Nat.reduceLT]
        · simp (maxDischargeDepth := 30) only [f2, amL, args0, Nat.reduceEqDiff, reduceCtorEq, ↓reduceIte, Nat.reduceAdd, resultsA, results1, Int.reduceNeg, splice, Nat.reduceLeDiff, part, fillA, fillE, Nat.reduceLT]
        · simp (maxDischargeDepth := 30) only [f3, amL, args0, Nat.reduceEqDiff, reduceCtorEq, ↓reduceIte, Nat.reduceAdd, resultsA, results1, Int.reduceNeg, splice, Nat.reduceLeDiff, part, fillA, fillE, Nat.reduceLT]
        · rcases hlt with rfl | hlt <;> exact .inr (by omega)
      · simp (maxDischargeDepth := 30) only [f0, f1, f2, f3, lR, lU, ixR x' hx', ldR x' hx', ixR y hy, ldR y hy, hgt, r0, List.append_nil, amL, args0, Nat.reduceEqDiff, reduceCtorEq, ↓reduceIte, Nat.reduceAdd, resultsA, results1, Int.reduceNeg, splice, Nat.reduceLeDiff, part, fillA, fillE, Nat.reduceLT]
        let K := fun (n : Nat) (fr : Frame) (M3 : Mem) => ∃ y' : Nat, n = h.rk y' ∧ M3 = M'' ∧ fr 0 = .int .i64 x' ∧ fr 1 = .int .i64 y' ∧ fr 2 = .ptr Pr 0 0 ∧ fr 3 = .ptr Pu 0 0 ∧ set y' = true ∧ An h.k up b y' ∧ (∀ z, An h.k up a z → An h.k up b z → An h.k up x' z ∧ An h.k up y' z) ∧ (y' = y ∨ h.rk y' < h.rk y)
        refine W_loop K ?_ (h.rk y) ?_
        · clear f0 f1 f2 f3 fr
          rintro n fr M3 ⟨y', rfl, hMM3, f0, f1, f2, f3, hy', hby', hz'', hlt2⟩
          subst hMM3
          unfold graph_net_holders_1_l2
          by_cases hgt2 : (h.rk x' : Int) - 1 < (h.rk y' : Int) - 1
          · obtain ⟨g1, g2, g3, g4, g5⟩ := hgo y' x' hy' hx' (by omega)
            simp (maxDischargeDepth := 30) only [f0, f1, f2, f3, lR, lU, ixR x' hx', ldR x' hx', ixR y' hy', ldR y' hy', hgt2, ixU y' hy', ldU y' hy', r0, List.append_nil, amL, args0, Nat.reduceEqDiff, reduceCtorEq, ↓reduceIte, Nat.reduceAdd, resultsA, results1, Int.reduceNeg, splice, Nat.reduceLeDiff, part, fillA, fillE, Nat.reduceLT]
            refine ⟨_, g3, up y', rfl, rfl, ?_, ?_, ?_, ?_, g2, hby'.trans g4, fun z h1 h2 => ⟨(hz'' z h1 h2).1, g5 z (hz'' z h1 h2).2 (hz'' z h1 h2).1⟩, ?_⟩
            · simp (maxDischargeDepth := 30) only [f0, amL, args0, Nat.reduceEqDiff, reduceCtorEq, ↓reduceIte, Nat.reduceAdd, resultsA, results1, Int.reduceNeg, splice, Nat.reduceLeDiff, part, fillA, fillE, Nat.reduceLT]
            · simp (maxDischargeDepth := 30) only [amL, args0, Nat.reduceEqDiff, reduceCtorEq, ↓reduceIte, Nat.reduceAdd, resultsA, results1, Int.reduceNeg, splice, Nat.reduceLeDiff, part, fillA, fillE, Nat.reduceLT]
            · simp (maxDischargeDepth := 30) only [f2, amL, args0, Nat.reduceEqDiff, reduceCtorEq, ↓reduceIte, Nat.reduceAdd, resultsA, results1, Int.reduceNeg, splice, Nat.reduceLeDiff, part, fillA, fillE, Nat.reduceLT]
            · simp (maxDischargeDepth := 30) only [f3, amL, args0, Nat.reduceEqDiff, reduceCtorEq, ↓reduceIte, Nat.reduceAdd, resultsA, results1, Int.reduceNeg, splice, Nat.reduceLeDiff, part, fillA, fillE, Nat.reduceLT]
            · rcases hlt2 with rfl | hlt2 <;> exact .inr (by omega)
          · simp (maxDischargeDepth := 30) only [f0, f1, f2, f3, lR, lU, ixR x' hx', ldR x' hx', ixR y' hy', ldR y' hy', hgt2, r0, List.append_nil, amL, args0, Nat.reduceEqDiff, reduceCtorEq, ↓reduceIte, Nat.reduceAdd, resultsA, results1, Int.reduceNeg, splice, Nat.reduceLeDiff, part, fillA, fillE, Nat.reduceLT]
            refine ⟨_, ?_, x', y', rfl, rfl, f0, f1, f2, f3, hx', hy', hax', hby', hz''⟩
            -- one of them went up: else they would be one
            have hne : h.rk x ≠ h.rk y := fun e => by
              refine hxy ?_
              have := (by
                rcases H.mem x hx with h1 | h1 <;> rcases H.mem y hy with h2 | h2
                · exact R.inj x y h1 h2 e
                · have := R.rkp x h1; have := R.rkk; rw [h2] at e; omega
                · have := R.rkp y h2; have := R.rkk; rw [h1] at e; omega
                · rw [h1, h2] : x = y)
              omega
            rcases hlt with rfl | hlt <;> rcases hlt2 with rfl | hlt2 <;> omega
        · exact ⟨y, rfl, rfl, by simp (maxDischargeDepth := 30) only [f0, amL, args0, Nat.reduceEqDiff, reduceCtorEq, ↓reduceIte, Nat.reduceAdd, resultsA, results1, Int.reduceNeg, splice, Nat.reduceLeDiff, part, fillA, fillE, Nat.reduceLT], by simp (maxDischargeDepth := 30) only [f1, amL, args0, Nat.reduceEqDiff, reduceCtorEq, ↓reduceIte, Nat.reduceAdd, resultsA, results1, Int.reduceNeg, splice, Nat.reduceLeDiff, part, fillA, fillE, Nat.reduceLT], by simp (maxDischargeDepth := 30) only [f2, amL, args0, Nat.reduceEqDiff, reduceCtorEq, ↓reduceIte, Nat.reduceAdd, resultsA, results1, Int.reduceNeg, splice, Nat.reduceLeDiff, part, fillA, fillE, Nat.reduceLT], by simp (maxDischargeDepth := 30) only [f3, amL, args0, Nat.reduceEqDiff, reduceCtorEq, ↓reduceIte, Nat.reduceAdd, resultsA, results1, Int.reduceNeg, splice, Nat.reduceLeDiff, part, fillA, fillE, Nat.reduceLT], hy, hby, hz', .inl rfl⟩
    · exact ⟨x, rfl, rfl, by simp (maxDischargeDepth := 30) only [f0, amL, args0, Nat.reduceEqDiff, reduceCtorEq, ↓reduceIte, Nat.reduceAdd, resultsA, results1, Int.reduceNeg, splice, Nat.reduceLeDiff, part, fillA, fillE, Nat.reduceLT], by simp (maxDischargeDepth := 30) only [f1, amL, args0, Nat.reduceEqDiff, reduceCtorEq, ↓reduceIte, Nat.reduceAdd, resultsA, results1, Int.reduceNeg, splice, Nat.reduceLeDiff, part, fillA, fillE, Nat.reduceLT], by simp (maxDischargeDepth := 30) only [f2, amL, args0, Nat.reduceEqDiff, reduceCtorEq, ↓reduceIte, Nat.reduceAdd, resultsA, results1, Int.reduceNeg, splice, Nat.reduceLeDiff, part, fillA, fillE, Nat.reduceLT], by simp (maxDischargeDepth := 30) only [f3, amL, args0, Nat.reduceEqDiff, reduceCtorEq, ↓reduceIte, Nat.reduceAdd, resultsA, results1, Int.reduceNeg, splice, Nat.reduceLeDiff, part, fillA, fillE, Nat.reduceLT], hx, hax, hz, .inl rfl⟩
  · exact ⟨a, b, rfl, rfl, by simp (maxDischargeDepth := 30) only [amL, args0, Nat.reduceEqDiff, reduceCtorEq, ↓reduceIte, Nat.reduceAdd, resultsA, results1, Int.reduceNeg, splice, Nat.reduceLeDiff, part, fillA, fillE, Nat.reduceLT], by simp (maxDischargeDepth := 30) only [amL, args0, Nat.reduceEqDiff, reduceCtorEq, ↓reduceIte, Nat.reduceAdd, resultsA, results1, Int.reduceNeg, splice, Nat.reduceLeDiff, part, fillA, fillE, Nat.reduceLT], by simp (maxDischargeDepth := 30) only [amL, args0, Nat.reduceEqDiff, reduceCtorEq, ↓reduceIte, Nat.reduceAdd, resultsA, results1, Int.reduceNeg, splice, Nat.reduceLeDiff, part, fillA, fillE, Nat.reduceLT], by simp (maxDischargeDepth := 30) only [amL, args0, Nat.reduceEqDiff, reduceCtorEq, ↓reduceIte, Nat.reduceAdd, resultsA, results1, Int.reduceNeg, splice, Nat.reduceLeDiff, part, fillA, fillE, Nat.reduceLT], ha, hb, .refl _, .refl _, fun z h1 h2 => ⟨h1, h2⟩⟩
end
end Go.AM.G
