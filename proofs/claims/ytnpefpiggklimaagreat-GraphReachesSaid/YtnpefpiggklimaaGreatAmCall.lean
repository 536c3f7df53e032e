/- Functions. -/
import Derived.Test.YtnpefpiggklimaaGreatAmCode
set_option linter.unusedVariables false
set_option linter.unusedSimpArgs false
namespace Go.AM
open Go
def resRun (tmps : Array Value) (r : ResultVar) : Sem Value :=
  match r with
  | .tmp t => pure (tmps.getD t Go.undef)
  | .cell a t => do loadVar t (← asAddr (tmps.getD a Go.undef))
theorem results_eq (fn : Func) (tmps : Array Value) : results fn tmps = (do let vs ← fn.results.mapM (resRun tmps); pure (if h : vs.size = 1 then vs[0] else .tuple vs)) := by
  unfold results
  congr 1
section
variable {P : Program} {N : Nat} {φ : Phi} {fr : Frame} {m : Mem} {A : Act} {w : World} {v : V}

theorem results1_sound (hst : St φ m w) (hA : RF φ N fr A) {r : ResultVar} {rv : RV} (hc : resC P N r = some rv) (h : results1 fr m rv = some v) :
    ∃ c, (resRun A.tmps r).run P w = .ok c w ∧ R φ v c := by
  cases r with
  | tmp t =>
    simp only [resC] at hc
    split at hc
    · rename_i ht
      cases hc
      simp only [results1, Option.some.injEq] at h
      subst h
      exact ⟨_, by simp only [resRun, Sem.run_pure], hA.rel t ht⟩
    · cases hc
  | cell a t =>
    simp only [resC] at hc
    split at hc
    · rename_i ht
      simp only [Option.map_eq_some_iff] at hc
      obtain ⟨k, hk, rfl⟩ := hc
      simp only [results1] at h
      obtain ⟨ad, cv, h1, h2, h3⟩ := run_loadVar_of hk hst (hA.rel a ht) h
      exact ⟨cv, by simp only [resRun, h1, Sem.run_bind, asAddr, Sem.run_pure, Result.andThen_ok, h2], h3⟩
    · cases hc
theorem resultsL_sound (hst : St φ m w) (hA : RF φ N fr A) : ∀ {l : List ResultVar} {rl : List RV} {vs : List V}, l.mapM (resC P N) = some rl → rl.mapM (results1 fr m) = some vs →
    ∃ cs, (l.mapM (resRun A.tmps)).run P w = .ok cs w ∧ Rs φ vs cs
  | [], rl, vs, h, h' => by
    simp at h
    subst h
    simp at h'
    subst h'
    exact ⟨[], by simp only [List.mapM_nil, Sem.run_pure], rfl⟩
  | r :: l, rl, vs, h, h' => by
    simp only [List.mapM_cons, Option.pure_def, Option.bind_eq_bind, Option.bind_eq_some_iff] at h
    obtain ⟨a, ha, as, has, e⟩ := h
    cases e
    simp only [List.mapM_cons, Option.pure_def, Option.bind_eq_bind, Option.bind_eq_some_iff] at h'
    obtain ⟨u, hu, us, hus, e⟩ := h'
    cases e
    obtain ⟨c, h1, h2⟩ := results1_sound hst hA ha hu
    obtain ⟨cs, h3, h4⟩ := resultsL_sound hst hA has hus
    refine ⟨c :: cs, ?_, by simp only [Rs]; exact ⟨c, cs, rfl, h2, h4⟩⟩
    rw [List.mapM_cons]
    simp only [Sem.run_bind, h1, Result.andThen_ok, h3, Sem.run_pure]
theorem results_sound (hst : St φ m w) (hA : RF φ N fr A) {fn : Func} {rl : List RV} (h : fn.results.toList.mapM (resC P N) = some rl) (hr : resultsA rl fr m = some v) :
    ∃ c, (results fn A.tmps).run P w = .ok c w ∧ R φ v c := by
  simp only [resultsA, Option.map_eq_some_iff] at hr
  obtain ⟨vs, hvs, rfl⟩ := hr
  obtain ⟨cs, h1, h2⟩ := resultsL_sound hst hA h hvs
  have hm : (fn.results.mapM (resRun A.tmps)).run P w = .ok cs.toArray w := by
    rw [Array.mapM_eq_mapM_toList]
    simp only [map_eq_pure_bind, Sem.run_bind, h1, Result.andThen_ok, Sem.run_pure]
  rw [results_eq]
  match vs, cs, h2 with
  | [], cs, h2 =>
    simp only [Rs] at h2
    subst h2
    refine ⟨.tuple #[], ?_, by simp only [R]; exact ⟨[], rfl, rfl⟩⟩
    simp only [Sem.run_bind]
    rw [hm]
    simp
  | [u], cs, h2 =>
    simp only [Rs] at h2
    obtain ⟨c, r, rfl, h3, rfl⟩ := h2
    refine ⟨c, ?_, h3⟩
    simp only [Sem.run_bind]
    rw [hm]
    simp
  | u1 :: u2 :: us, cs, h2 =>
    refine ⟨.tuple cs.toArray, ?_, by simp only [R]; exact ⟨cs, rfl, h2⟩⟩
    have hl := h2.len
    simp only [Sem.run_bind]
    rw [hm]
    simp only [Result.andThen_ok, List.size_toArray]
    rw [dif_neg (by rw [hl]; simp)]
    rfl
end

/-- the table of functions is the program's. -/
def TableOk (P : Program) (F : Nat → Option AFunc) : Prop := ∀ f fn, F f = some fn → ∃ g, P.funcs[f]? = some g ∧ compFunc P g = some fn
def ToldOk (P : Program) (X : Told) : Prop := ∀ f t, X f = some t → ∀ call, SoundCall P call → ∀ args m v m', t call args m = some (v, m') → CallOk P f args m v m'
theorem callN_sound {P : Program} {F : Nat → Option AFunc} {X : Told} (hF : TableOk P F) (hX : ToldOk P X) (hD : ∀ n, SoundCall P (callN F X n) → DrawOk P (callN F X n)) : ∀ n, SoundCall P (callN F X n)
  | 0 => fun f args m v m' h => by simp [callN] at h
  | n + 1 => fun f args m v m' h => by
    have ih := callN_sound hF hX hD n
    simp only [callN] at h
    split at h
    · rename_i t ht
      exact hX f t ht _ ih args m v m' h
    split at h
    · cases h
    rename_i fn hfn
    obtain ⟨g, hg, hcomp⟩ := hF f fn hfn
    split at h
    case isFalse => cases h
    rename_i hlen
    simp only [compFunc, Option.bind_eq_bind, Option.bind_eq_some_iff, Option.pure_def] at hcomp
    obtain ⟨c, hc, hcomp⟩ := hcomp
    split at hcomp
    · cases hcomp
    rename_i hname
    split at hcomp
    · cases hcomp
    rename_i hntm
    simp only [Option.bind_eq_some_iff, Option.some.injEq] at hcomp
    obtain ⟨ac, hac, rl, hrl, rfl⟩ := hcomp
    refine ⟨⟨g, hg, by rw [hc]; rfl, by simpa using hname⟩, fun φ w cargs hst hargs => ?_⟩
    have hcl : cargs.length = args.length := hargs.len
    simp only at hlen
    refine calls_of_wp hg hc ?_
    have hA : RF φ g.ntmps (args0 args) { tmps := cargs.toArray ++ Array.replicate (g.ntmps - cargs.toArray.size) Go.undef, defers := [] } := by
      refine ⟨by simp; omega, rfl, fun i hi => ?_⟩
      unfold args0
      by_cases hlt : i < args.length
      · have h1 : args[i]? = some args[i] := List.getElem?_eq_getElem hlt
        obtain ⟨cv, h2, h3⟩ := hargs.get h1
        have h4 : (cargs.toArray ++ Array.replicate (g.ntmps - cargs.toArray.size) Go.undef).getD i Go.undef = cv := by
          rw [Array.getD_eq_getD_getElem?, Array.getElem?_append_left (by simp; omega)]
          simp [h2]
        rw [h4]
        simp [List.getD, h1]
        exact h3
      · have h4 : (cargs.toArray ++ Array.replicate (g.ntmps - cargs.toArray.size) Go.undef).getD i Go.undef = Go.undef := by
          rw [Array.getD_eq_getD_getElem?, Array.getElem?_append_right (by simp; omega)]
          simp [Array.getElem?_replicate]
          split <;> rfl
        rw [h4]
        simp [List.getD, List.getElem?_eq_none (Nat.le_of_not_lt hlt)]
        exact R_undef φ
    split at h
    · rename_i fr1 m1 hx
      simp only [Option.map_eq_some_iff, Prod.mk.injEq] at h
      obtain ⟨v1, hv1, rfl, rfl⟩ := h
      refine exec_sound ih (hD n ih) n c hac hx hst hA ?_
      intro φ' A' w' hstp hA'
      obtain ⟨cv, h1, h2⟩ := results_sound hstp.st hA' hrl hv1
      exact ⟨hA'.defers, cv, h1, φ', cv, rfl, hstp, h2⟩
    · rename_i fr1 m1 hx
      simp only [Option.map_eq_some_iff, Prod.mk.injEq] at h
      obtain ⟨v1, hv1, rfl, rfl⟩ := h
      refine exec_sound ih (hD n ih) n c hac hx hst hA ?_
      intro φ' A' w' hstp hA'
      obtain ⟨cv, h1, h2⟩ := results_sound hstp.st hA' hrl hv1
      exact ⟨hA'.defers, cv, h1, φ', cv, rfl, hstp, h2⟩
    · cases h
end Go.AM
