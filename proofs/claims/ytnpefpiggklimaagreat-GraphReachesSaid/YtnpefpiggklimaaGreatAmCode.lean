/- Calls, regions in the text's order, code. -/
import Derived.Test.YtnpefpiggklimaaGreatAmSound
set_option linter.unusedVariables false
set_option linter.unusedSimpArgs false
namespace Go.AM
open Go

def Enterable (P : Program) (f : FuncId) : Prop := ∃ fn, P.funcs[f]? = some fn ∧ fn.body.isSome = true ∧ (fn.name == "runtime.NumGoroutine") = false
/-- what a call comes to in the model, where the abstract one comes to v, m'. -/
def CallOk (P : Program) (f : FuncId) (args : List V) (m : Mem) (v : V) (m' : Mem) : Prop :=
  Enterable P f ∧ ∀ (φ : Phi) (w : World) (cargs : List Value), St φ m w → Rs φ args cargs →
    Calls P f cargs.toArray w fun e w' => ∃ φ' cv, e = .returned cv ∧ Stp φ m w φ' m' w' ∧ R φ' v cv
def SoundCall (P : Program) (call : CallF) : Prop := ∀ f args m v m', call f args m = some (v, m') → CallOk P f args m v m'

section
variable {P : Program} {N : Nat} {φ : Phi} {fr fr' : Frame} {m : Mem} {A : Act} {w : World} {o : Oper} {ao : AOp} {v : V} {m' : Mem} {call : CallF}

theorem run_callFunc {f : FuncId} (h : Enterable P f) (args : Array Value) (w : World) : (callFunc f args).run P w = .ok (.enter f args) w := by
  obtain ⟨fn, h1, h2, h3⟩ := h
  have h3' : ¬ fn.name = "runtime.NumGoroutine" := by simpa using h3
  have h5 : fn.body ≠ none := fun e => by rw [e] at h2; cases h2
  simp [callFunc, h1, h3', h5]
theorem step_sound (hcall : SoundCall P call) (hc : compOp P N o = some ao) (hst : St φ m w) (hA : RF φ N fr A) {tgt : Option Nat} (hnt : ∀ i, tgt = some i → φ i = none) (hs : step call ao tgt fr m = some (v, m')) {K : Act → World → Prop} {Q : Exit → Act → World → Prop}
    (hK : ∀ φ' w' cv, StpE (fun b => tgt = some b) φ m w φ' m' w' → R φ' v cv → K (A.put o.dst cv) w') : o.wp P A w K Q := by
  unfold compOp at hc
  split at hc
  · rename_i f args ts ho
    simp only [Option.bind_eq_bind, Option.bind_eq_some_iff, Option.pure_def, Option.some.injEq] at hc
    obtain ⟨f', hf, as, has, rfl⟩ := hc
    simp only [step] at hs
    split at hs
    · rename_i g first cap hg
      obtain ⟨he, hcl⟩ := hcall _ _ _ _ _ hs
      have rf := argC_sound hA hf
      rw [hg] at rf
      simp only [R] at rf
      obtain ⟨fs, cs, ef, r1, r2⟩ := rf
      have ra := argsC_sound hA has
      have := hcl φ w _ hst (r1.append (ra.append r2))
      unfold Oper.wp
      have hrun : (execOp A.eval o).run P w = .ok (.enter g (fs ++ (args.toList.map A.eval ++ cs)).toArray) w := by
        have h1 : (fs.toArray ++ args.map A.eval ++ cs.toArray) = (fs ++ (args.toList.map A.eval ++ cs)).toArray := by
          apply Array.ext'; simp
        rw [← h1]
        simp only [execOp, ho, resolve, ef, Deferred.ofValue, Sem.run_bind, Sem.run_pure, Result.andThen_ok, invoke]
        exact run_callFunc he _ w
      rw [hrun]
      simp only [Oper.upon]
      refine this.mono ?_
      rintro e w' ⟨φ', cv, rfl, hstp, hv⟩
      exact hK φ' w' cv (hstp.weaken (fun _ h => h.elim)) hv
    · cases hs
  · split at hc
    · rename_i a ha
      split at hc
      · cases hc
      · rename_i hnc
        cases hc
        have hs' : prim ao tgt fr m = some (v, m') := by
          cases ao <;> first | exact hs | (simp [isCall] at hnc)
        obtain ⟨cv, w', φ', hr, hstp, hv⟩ := prim_sound P N ha hst hA hnt hs'
        unfold Oper.wp
        rcases hr with hr | ⟨hr, rfl⟩
        · rw [hr]; exact hK φ' w' cv hstp hv
        · rw [hr]; exact hK φ' w' _ hstp hv
    · cases hc

theorem slotC_lt {d : Option Tmp} {d' : Option Nat} (h : slotC N d = some d') : d' = d ∧ ∀ i, d = some i → i < N := by
  cases d with
  | none => simp [slotC] at h; exact ⟨h.symm, by simp⟩
  | some t =>
    simp only [slotC] at h
    split at h
    · rename_i ht
      cases h
      exact ⟨rfl, fun i hi => by cases hi; exact ht⟩
    · cases h
theorem wanted_sound {ops : Array Oper} {g' : Option (Nat × Bool)} (h : guardC N ops o.guard = some g') (hA : RF φ N fr A) : Region.wanted o (yielded ops A.tmps) = wantedA g' fr := by
  unfold guardC at h
  unfold Region.wanted
  split at h
  · rename_i hg
    cases h
    rw [hg]; rfl
  · rename_i j want hg
    rw [hg]
    split at h
    · rename_i t ht
      split at h
      · rename_i hlt
        cases h
        simp only [yielded, ht, Option.bind_some, wantedA]
        have hr := hA.rel t hlt
        have hget : A.tmps[t]? = some (A.tmps.getD t Go.undef) := by
          have : t < A.tmps.size := by rw [hA.size]; exact hlt
          simp [Array.getD, this]
        rw [hget]
        generalize A.tmps.getD t Go.undef = c at hr
        cases hv : fr t <;> rw [hv] at hr
        case mp b => obtain ⟨x, rfl⟩ := hr.mpv; rfl
        all_goals simp only [R] at hr
        case bool b => subst hr; cases b <;> cases want <;> rfl
        case int => subst hr; rfl
        case nilp => subst hr; rfl
        case nils => subst hr; rfl
        case emp => obtain ⟨p, rfl⟩ := hr; rfl
        case nilf => subst hr; rfl
        case ptr => obtain ⟨p, _, rfl⟩ := hr; rfl
        case slice => obtain ⟨p, a, c, _, _, rfl, _⟩ := hr; rfl
        case fn => obtain ⟨p, a, rfl, _⟩ := hr; rfl
        case agg => obtain ⟨p, rfl, _⟩ := hr; rfl
        case tup => obtain ⟨p, rfl, _⟩ := hr; rfl
      · cases h
    · cases h
theorem compOper_some {ops : Array Oper} {x : AOper} (h : compOper P N ops o = some x) : slotC N o.dst = some x.dst ∧ guardC N ops o.guard = some x.g ∧ compOp P N o = some x.op ∧ x.chk = [] ∧ x.res = none := by
  simp only [compOper, Option.bind_eq_bind, Option.bind_eq_some_iff, Option.pure_def, Option.some.injEq] at h
  obtain ⟨d, hd, g, hg, op, hop, rfl⟩ := h
  exact ⟨hd, hg, hop, rfl, rfl⟩

theorem ops_sound (hcall : SoundCall P call) {ops : Array Oper} {Q : Exit → Act → World → Prop} : ∀ {l : List Oper} {al : List AOper}, l.mapM (compOper P N ops) = some al → ∀ {φ : Phi} {fr : Frame} {m : Mem} {A : Act} {w : World},
    runOps call 0 al fr m = some (fr', m') → St φ m w → RF φ N fr A → (∀ φ' A' w', Stp φ m w φ' m' w' → RF φ' N fr' A' → Q .normal A' w') → wpList P ops Q l A w
  | [], al, hl, φ, fr, m, A, w, hr, hst, hA, hQ => by
    simp at hl
    subst hl
    simp only [runOps, Option.some.injEq, Prod.mk.injEq] at hr
    obtain ⟨rfl, rfl⟩ := hr
    exact hQ φ A w (Stp.refl hst) hA
  | o :: l, al, hl, φ, fr, m, A, w, hr, hst, hA, hQ => by
    simp only [List.mapM_cons, Option.pure_def, Option.bind_eq_bind, Option.bind_eq_some_iff] at hl
    obtain ⟨x, hx, al', hal, e⟩ := hl
    cases e
    obtain ⟨h1, h2, h3, h4, h5⟩ := compOper_some hx
    obtain ⟨hd, hdl⟩ := slotC_lt h1
    simp only [runOps, run1, h5, Option.map_none] at hr
    unfold wpList
    rw [wanted_sound h2 hA]
    split at hr
    case h_2 => cases hr
    rename_i fr1 m1 hrun
    split at hrun
    · rename_i hw
      rw [if_pos hw]
      left
      split at hrun
      · rename_i v m2 hs
        split at hrun
        · cases hrun
          refine step_sound hcall h3 hst hA (tgt := none) (fun i h => by cases h) hs ?_
          intro φ1 w1 cv hstp' hv
          have hstp : Stp φ m w φ1 m1 w1 := hstp'.weaken (fun _ h => by cases h)
          rw [hd] at hr
          exact ops_sound hcall hal hr hstp.st ((hA.ext hstp.ext).putO hdl hv) (fun φ' A' w' h1 h2 => hQ φ' A' w' (hstp.trans h1) h2)
        · cases hrun
      · cases hrun
    · rename_i hw
      rw [if_neg hw]
      cases hrun
      rw [hd] at hr
      exact ops_sound hcall hal hr hst (hA.undef hdl) hQ
/-- what is asked of the regions that draw their order. -/
def DrawOk (P : Program) (call : CallF) : Prop := ∀ (N : Nat) (id : Nat) (ops : Array Oper) (k : Nat) (al : List AOper), compDraw P N ops = some (k, al) → ∀ (φ : Phi) (fr : Frame) (m : Mem) (A : Act) (w : World) (fr' : Frame) (m' : Mem) (Q : Exit → Act → World → Prop),
    runOps call m.length al fr (m ++ List.replicate k .dead) = some (fr', m') → St φ m w → RF φ N fr A → (∀ φ' A' w', Stp φ m w φ' m' w' → RF φ' N fr' A' → Q .normal A' w') → (Code.region id ops true).wp P Q A w
def ex : AExit → Exit
  | .normal => .normal
  | .exit id => .exit id
  | .ret => .ret
theorem exec_stuck {call : CallF} {n : Nat} {fr : Frame} {m : Mem} : exec call n (.loop .skip) fr m = none := by
  have : ∀ k fr m, iter (exec call n .skip) k fr m = none := by
    intro k
    induction k with
    | zero => intro fr m; rfl
    | succ k ih => intro fr m; simp only [iter, exec]; exact ih fr m
  simp only [exec]
  exact this _ _ _
theorem exec_sound (hcall : SoundCall P call) (hdraw : DrawOk P call) (n : Nat) : ∀ (c : Code) {ac : ACode}, compCode P N c = some ac → ∀ {φ : Phi} {fr : Frame} {m : Mem} {A : Act} {w : World} {e : AExit} {fr' : Frame} {m' : Mem} {Q : Exit → Act → World → Prop},
    exec call n ac fr m = some (e, fr', m') → St φ m w → RF φ N fr A → (∀ φ' A' w', Stp φ m w φ' m' w' → RF φ' N fr' A' → Q (ex e) A' w') → c.wp P Q A w
  | .skip, ac, hc, φ, fr, m, A, w, e, fr', m', Q, he, hst, hA, hQ => by
    simp only [compCode, Option.some.injEq] at hc
    subst hc
    simp only [exec, Option.some.injEq, Prod.mk.injEq] at he
    obtain ⟨rfl, rfl, rfl⟩ := he
    exact wp_skip (hQ φ A w (Stp.refl hst) hA)
  | .ret, ac, hc, φ, fr, m, A, w, e, fr', m', Q, he, hst, hA, hQ => by
    simp only [compCode, Option.some.injEq] at hc
    subst hc
    simp only [exec, Option.some.injEq, Prod.mk.injEq] at he
    obtain ⟨rfl, rfl, rfl⟩ := he
    exact wp_ret (hQ φ A w (Stp.refl hst) hA)
  | .exit id, ac, hc, φ, fr, m, A, w, e, fr', m', Q, he, hst, hA, hQ => by
    simp only [compCode, Option.some.injEq] at hc
    subst hc
    simp only [exec, Option.some.injEq, Prod.mk.injEq] at he
    obtain ⟨rfl, rfl, rfl⟩ := he
    exact wp_exit (hQ φ A w (Stp.refl hst) hA)
  | .region id ops draw, ac, hc, φ, fr, m, A, w, e, fr', m', Q, he, hst, hA, hQ => by
    simp only [compCode] at hc
    cases draw with
    | true =>
      simp only [if_true, Option.map_eq_some_iff] at hc
      obtain ⟨⟨k, al⟩, hal, rfl⟩ := hc
      simp only [exec, Option.map_eq_some_iff] at he
      obtain ⟨⟨fr1, m1⟩, hr, e'⟩ := he
      simp only [Prod.mk.injEq] at e'
      obtain ⟨rfl, rfl, rfl⟩ := e'
      exact hdraw N id ops k al hal φ fr m A w _ _ Q hr hst hA hQ
    | false =>
      simp only [Bool.false_eq_true, if_false] at hc
      split at hc
      · rename_i al hal
        cases hc
        simp only [exec, Option.map_eq_some_iff] at he
        obtain ⟨⟨fr1, m1⟩, hr, e'⟩ := he
        simp only [Prod.mk.injEq] at e'
        obtain ⟨rfl, rfl, rfl⟩ := e'
        exact wp_region_list (ops_sound hcall hal hr hst hA hQ)
      · cases hc
        rw [exec_stuck] at he
        cases he
  | .seq a b, ac, hc, φ, fr, m, A, w, e, fr', m', Q, he, hst, hA, hQ => by
    simp only [compCode, Option.bind_eq_bind, Option.bind_eq_some_iff, Option.pure_def, Option.some.injEq] at hc
    obtain ⟨a', ha, b', hb, rfl⟩ := hc
    simp only [exec] at he
    refine wp_seq ?_
    split at he
    · rename_i fr1 m1 h1
      refine exec_sound hcall hdraw n a ha h1 hst hA ?_
      intro φ1 A1 w1 hstp hA1
      exact exec_sound hcall hdraw n b hb he hstp.st hA1 (fun φ' A' w' h2 h3 => hQ φ' A' w' (hstp.trans h2) h3)
    · rename_i hne
      refine exec_sound hcall hdraw n a ha he hst hA ?_
      intro φ1 A1 w1 hstp hA1
      cases e with
      | normal => exact absurd he (by intro h; exact hne _ _ h)
      | exit id => exact hQ φ1 A1 w1 hstp hA1
      | ret => exact hQ φ1 A1 w1 hstp hA1
  | .cond c a b, ac, hc, φ, fr, m, A, w, e, fr', m', Q, he, hst, hA, hQ => by
    simp only [compCode, Option.bind_eq_bind, Option.bind_eq_some_iff, Option.pure_def, Option.some.injEq] at hc
    obtain ⟨c', hc', a', ha, b', hb, rfl⟩ := hc
    have rc := argC_sound hA hc'
    simp only [exec] at he
    split at he
    · rename_i hv
      rw [hv] at rc
      simp only [R] at rc
      exact wp_cond_true rc (exec_sound hcall hdraw n a ha he hst hA hQ)
    · rename_i hv
      rw [hv] at rc
      simp only [R] at rc
      exact wp_cond_false rc (exec_sound hcall hdraw n b hb he hst hA hQ)
    · cases he
  | .block id c, ac, hc, φ, fr, m, A, w, e, fr', m', Q, he, hst, hA, hQ => by
    simp only [compCode, Option.bind_eq_bind, Option.bind_eq_some_iff, Option.pure_def, Option.some.injEq] at hc
    obtain ⟨c', hc', rfl⟩ := hc
    simp only [exec] at he
    refine wp_block ?_
    split at he
    · rename_i id' fr1 m1 h1
      refine exec_sound hcall hdraw n c hc' h1 hst hA ?_
      intro φ1 A1 w1 hstp hA1
      simp only [ex, Exit.inBlock]
      split at he
      · rename_i hid
        simp only [Option.some.injEq, Prod.mk.injEq] at he
        obtain ⟨rfl, rfl, rfl⟩ := he
        rw [if_pos hid]
        exact hQ φ1 A1 w1 hstp hA1
      · rename_i hid
        simp only [Option.some.injEq, Prod.mk.injEq] at he
        obtain ⟨rfl, rfl, rfl⟩ := he
        rw [if_neg hid]
        exact hQ φ1 A1 w1 hstp hA1
    · rename_i hne
      refine exec_sound hcall hdraw n c hc' he hst hA ?_
      intro φ1 A1 w1 hstp hA1
      cases e with
      | normal => exact hQ φ1 A1 w1 hstp hA1
      | exit id' => exact absurd he (by intro h; exact hne _ _ _ h)
      | ret => exact hQ φ1 A1 w1 hstp hA1
  | .loop c, ac, hc, φ, fr, m, A, w, e, fr', m', Q, he, hst, hA, hQ => by
    simp only [compCode, Option.bind_eq_bind, Option.bind_eq_some_iff, Option.pure_def, Option.some.injEq] at hc
    obtain ⟨c', hc', rfl⟩ := hc
    simp only [exec] at he
    refine wp_loop_rounds n ?_
    have key : ∀ (k : Nat) {φ : Phi} {fr : Frame} {m : Mem} {A : Act} {w : World}, iter (exec call n c') k fr m = some (e, fr', m') → St φ m w → RF φ N fr A →
        (∀ φ' A' w', Stp φ m w φ' m' w' → RF φ' N fr' A' → Q (ex e) A' w') → Code.rounds P c Q k A w := by
      intro k
      induction k with
      | zero => intro φ fr m A w h; simp [iter] at h
      | succ k ih =>
        intro φ fr m A w h hst hA hQ
        simp only [iter] at h
        rw [rounds_succ]
        split at h
        · rename_i fr1 m1 h1
          refine exec_sound hcall hdraw n c hc' h1 hst hA ?_
          intro φ1 A1 w1 hstp hA1
          exact ih h hstp.st hA1 (fun φ' A' w' h2 h3 => hQ φ' A' w' (hstp.trans h2) h3)
        · rename_i hne
          refine exec_sound hcall hdraw n c hc' h hst hA ?_
          intro φ1 A1 w1 hstp hA1
          cases e with
          | normal => exact absurd h (by intro h; exact hne _ _ h)
          | exit id => exact hQ φ1 A1 w1 hstp hA1
          | ret => exact hQ φ1 A1 w1 hstp hA1
    exact key n he hst hA hQ
  | .rangeFunc _ _ _ _, ac, hc, _, _, _, _, _, _, _, _, _, _, _, _, _ => by simp [compCode] at hc
  | .scope _, ac, hc, _, _, _, _, _, _, _, _, _, _, _, _, _ => by simp [compCode] at hc
  | .label _, ac, hc, _, _, _, _, _, _, _, _, _, _, _, _, _ => by simp [compCode] at hc
  | .goto _, ac, hc, _, _, _, _, _, _, _, _, _, _, _, _, _ => by simp [compCode] at hc
  | .refuse _, ac, hc, _, _, _, _, _, _, _, _, _, _, _, _, _ => by simp [compCode] at hc
end
end Go.AM
