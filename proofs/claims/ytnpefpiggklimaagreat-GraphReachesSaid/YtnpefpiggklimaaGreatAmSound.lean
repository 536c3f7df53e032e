/- What the intermediate code comes to, the model's code comes to. -/
import Derived.Test.YtnpefpiggklimaaGreatAmPrim
import Derived.Test.YtnpefpiggklimaaGreatAmPrim
import Derived.LoopN
set_option linter.unusedVariables false
set_option linter.unusedSimpArgs false
namespace Go.AM
open Go

def PrimOk (P : Program) (N : Nat) : Prop := ∀ {o : Oper} {ao : AOp}, compPrim P N o = some ao → ∀ {φ : Phi} {fr : Frame} {m : Mem} {A : Act} {w : World} {v : V} {m' : Mem} {tgt : Option Nat}, St φ m w → RF φ N fr A → (∀ i, tgt = some i → φ i = none) → prim ao tgt fr m = some (v, m') → Does (fun b => tgt = some b) P o A w φ m v m'

theorem prim_sound (P : Program) (N : Nat) : PrimOk P N := by
  intro o ao hc φ fr m A w v m' tgt hst hA hnt hp
  have W : Does0 P o A w φ m v m' → Does (fun b => tgt = some b) P o A w φ m v m' := fun h => h.weaken (fun _ h => h.elim)
  cases ho : o.op
  case move x =>
    simp only [compPrim, ho, Option.map_eq_some_iff] at hc
    obtain ⟨a, ha, rfl⟩ := hc
    exact W (does_mv hst hA (.inl ho) ha hp)
  case assign x =>
    simp only [compPrim, ho, Option.map_eq_some_iff] at hc
    obtain ⟨a, ha, rfl⟩ := hc
    exact W (does_mv hst hA (.inr ho) ha hp)
  case pick c a b =>
    simp only [compPrim, ho, Option.bind_eq_bind, Option.bind_eq_some_iff, Option.pure_def, Option.some.injEq] at hc
    obtain ⟨c', hc', a', ha', b', hb', rfl⟩ := hc
    exact W (does_pick hst hA ho hc' ha' hb' hp)
  case alloc e =>
    simp only [compPrim, ho, Option.map_eq_some_iff] at hc
    obtain ⟨z, hz, rfl⟩ := hc
    exact does_alloc hst ho hz  hnt hp
  case box e x =>
    simp only [compPrim, ho, Option.map_eq_some_iff] at hc
    obtain ⟨a, ha, rfl⟩ := hc
    exact does_box hst hA ho ha  hnt hp
  case build t ps =>
    simp only [compPrim, ho] at hc
    split at hc
    · rename_i fields hu
      simp only [Option.bind_eq_bind, Option.bind_eq_some_iff, Option.pure_def, Option.some.injEq] at hc
      obtain ⟨z, hz, pl, hpl, l, hl, rfl⟩ := hc
      exact W (does_build hst hA ho hz (.inl ⟨fields, pl, hu, hpl, hl⟩) hp)
    · rename_i k e hu
      simp only [Option.bind_eq_bind, Option.bind_eq_some_iff, Option.pure_def, Option.some.injEq] at hc
      obtain ⟨z, hz, n, hn, l, hl, rfl⟩ := hc
      exact W (does_build hst hA ho hz (.inr ⟨k, e, n, hu, hn, hl⟩) hp)
    · cases hc
  case buildSlice t n ps =>
    simp only [compPrim, ho, Option.bind_eq_bind, Option.bind_eq_some_iff, Option.pure_def] at hc
    obtain ⟨e, he, z, hz, hc⟩ := hc
    split at hc
    · cases hc
    · rename_i hn
      simp only [Option.bind_eq_some_iff, Option.some.injEq] at hc
      obtain ⟨l, hl, rfl⟩ := hc
      exact does_bslice hst hA ho he hz hn hl  hnt hp
  case load t a =>
    simp only [compPrim, ho, Option.bind_eq_bind, Option.bind_eq_some_iff, Option.pure_def, Option.some.injEq] at hc
    obtain ⟨k, hk, a', ha', rfl⟩ := hc
    exact W (does_load hst hA ho hk ha' hp)
  case store t a x =>
    simp only [compPrim, ho, Option.bind_eq_bind, Option.bind_eq_some_iff, Option.pure_def, Option.some.injEq] at hc
    obtain ⟨n, hn, a', ha', x', hx', rfl⟩ := hc
    exact W (does_store hst hA ho hn ha' hx' hp)
  case nilCheck x =>
    simp only [compPrim, ho, Option.map_eq_some_iff] at hc
    obtain ⟨a, ha, rfl⟩ := hc
    exact W (does_nilck hst hA ho ha hp)
  case binOp op t x y u =>
    simp only [compPrim, ho, Option.bind_eq_bind, Option.bind_eq_some_iff, Option.pure_def] at hc
    obtain ⟨a, ha, b, hb, hc⟩ := hc
    split at hc
    · simp only [Option.some.injEq] at hc
      subst hc
      exact W (does_bin hst hA ho ha hb hp)
    · split at hc
      · simp only [Option.bind_eq_some_iff, Option.some.injEq] at hc
        obtain ⟨c, hcl, rfl⟩ := hc
        exact W (does_eq hst hA ho hcl ha hb hp)
      · simp only [Option.bind_eq_some_iff, Option.some.injEq] at hc
        obtain ⟨c, hcl, rfl⟩ := hc
        exact W (does_ne hst hA ho hcl ha hb hp)
      · cases hc
  case unOp op t x =>
    simp only [compPrim, ho, Option.map_eq_some_iff] at hc
    obtain ⟨a, ha, rfl⟩ := hc
    exact W (does_un hst hA ho ha hp)
  case convert s t x =>
    simp only [compPrim, ho] at hc
    split at hc
    · rename_i d k hs ht
      simp only [Option.map_eq_some_iff] at hc
      obtain ⟨a, ha, rfl⟩ := hc
      exact W (does_conv hst hA ho hs ht ha hp)
    · cases hc
  case makeFunc fn first cap =>
    cases fn
    case func f =>
      simp only [compPrim, ho, Option.bind_eq_bind, Option.bind_eq_some_iff, Option.pure_def, Option.some.injEq] at hc
      obtain ⟨a, ha, b, hb, rfl⟩ := hc
      exact W (does_mkfn hst hA ho ha hb hp)
    all_goals (simp [compPrim, ho] at hc)
  case makeSlice t l c =>
    simp only [compPrim, ho, Option.bind_eq_bind, Option.bind_eq_some_iff, Option.pure_def] at hc
    obtain ⟨e, he, b, hb, hc⟩ := hc
    split at hc
    · cases hc
    · simp only [Option.bind_eq_some_iff, Option.some.injEq] at hc
      obtain ⟨z, hz, l', hl', c', hc', rfl⟩ := hc
      exact does_mkslice hst hA ho he hz hb hl' hc'  hnt hp
  case makeMap t r =>
    cases r with
    | some _ => simp [compPrim, ho] at hc
    | none =>
      simp only [compPrim, ho] at hc
      split at hc
      · cases hc
        exact W (does_mkmap hst ho hp)
      · cases hc
  case lookup t x k ok =>
    cases ok with
    | true => simp [compPrim, ho] at hc
    | false =>
      simp only [compPrim, ho] at hc
      split at hc
      · rename_i hm
        simp only [Option.bind_eq_bind, Option.bind_eq_some_iff, Option.pure_def, Option.some.injEq] at hc
        obtain ⟨a, ha, b, hb, rfl⟩ := hc
        exact W (does_lookup hst hA ho hm ha hb hp)
      · cases hc
  case mapUpdate t x k u =>
    simp only [compPrim, ho] at hc
    split at hc
    · rename_i hm
      simp only [Option.bind_eq_bind, Option.bind_eq_some_iff, Option.pure_def, Option.some.injEq] at hc
      obtain ⟨a, ha, b, hb, c, hcc, rfl⟩ := hc
      exact W (does_mapset hst hA ho hm ha hb hcc hp)
    · cases hc
  case slice t x lo hi mx =>
    simp only [compPrim, ho, Option.bind_eq_bind, Option.bind_eq_some_iff, Option.pure_def] at hc
    obtain ⟨e, he, n, hn, hc⟩ := hc
    split at hc
    · cases hc
    · rename_i hmh
      simp only [Option.bind_eq_some_iff, Option.some.injEq] at hc
      obtain ⟨a, ha, l, hl, h, hh, k, hk, rfl⟩ := hc
      exact W (does_slice hst hA ho he hn (by cases mx <;> cases hi <;> simp_all) ha hl hh hk hp)
  case fieldAddr s x f =>
    simp only [compPrim, ho] at hc
    split at hc
    · rename_i fields hs
      simp only [Option.bind_eq_bind, Option.bind_eq_some_iff, Option.pure_def] at hc
      obtain ⟨fd, hf, n, hn, hc⟩ := hc
      split at hc
      · cases hc
      · rename_i h0
        simp only [Option.bind_eq_some_iff, Option.some.injEq] at hc
        obtain ⟨a, ha, rfl⟩ := hc
        exact W (does_fieldAddr hst hA ho hs hf hn h0 ha hp)
    · cases hc
  case field t x f =>
    simp only [compPrim, ho] at hc
    split at hc
    · rename_i fields hs
      simp only [Option.bind_eq_bind, Option.bind_eq_some_iff, Option.pure_def, Option.some.injEq] at hc
      obtain ⟨fd, hf, k, hk, a, ha, rfl⟩ := hc
      exact W (does_field hst hA ho hs hf hk ha hp)
    · cases hc
  case indexAddr t x ix =>
    simp only [compPrim, ho] at hc
    split at hc
    · rename_i e ht
      simp only [Option.bind_eq_bind, Option.bind_eq_some_iff, Option.pure_def, Option.some.injEq] at hc
      obtain ⟨n, hn, a, ha, b, hb, rfl⟩ := hc
      exact W (does_indexAddr hst hA ho ht hn ha hb hp)
    · rename_i len e ht
      simp only [Option.bind_eq_bind, Option.bind_eq_some_iff, Option.pure_def, Option.some.injEq] at hc
      obtain ⟨n, hn, a, ha, b, hb, rfl⟩ := hc
      exact W (does_indexArr hst hA ho ht hn ha hb hp)
    · cases hc
  case extract t i =>
    simp only [compPrim, ho, Option.bind_eq_bind, Option.bind_eq_some_iff, Option.pure_def, Option.some.injEq] at hc
    obtain ⟨a, ha, rfl⟩ := hc
    exact W (does_extract hst hA ho ha hp)
  case call c =>
    obtain ⟨callee, args, argTypes⟩ := c
    cases callee with
    | value f => simp [compPrim, ho] at hc
    | invoke r mth => simp [compPrim, ho] at hc
    | builtin b =>
      simp only [compPrim, ho] at hc
      split at hc
      · rename_i x t ts h1 h2
        simp only [Option.bind_eq_bind, Option.bind_eq_some_iff, Option.pure_def, Option.some.injEq] at hc
        obtain ⟨e, he, a, ha, rfl⟩ := hc
        exact W (does_len hst hA ho rfl h1 h2 (elemT_some he) ha hp)
      · rename_i x t ts h1 h2
        simp only [Option.bind_eq_bind, Option.bind_eq_some_iff, Option.pure_def, Option.some.injEq] at hc
        obtain ⟨e, he, a, ha, rfl⟩ := hc
        exact W (does_cap hst hA ho rfl h1 h2 (elemT_some he) ha hp)
      · rename_i x y t u h1 h2
        simp only [Option.bind_eq_bind, Option.bind_eq_some_iff, Option.pure_def] at hc
        obtain ⟨e, he, hc⟩ := hc
        split at hc
        · rename_i hu
          split at hc
          · rename_i hiu
            simp only [Option.bind_eq_some_iff] at hc
            obtain ⟨b, hb, hc⟩ := hc
            split at hc
            · cases hc
            · simp only [Option.bind_eq_some_iff, Option.some.injEq] at hc
              obtain ⟨z, hz, a, ha, c, hc', rfl⟩ := hc
              exact W (does_appz hst hA ho rfl h1 h2 he hz hb hiu ha hc' hp)
          · cases hc
        · rename_i hu
          simp only [Option.bind_eq_some_iff] at hc
          obtain ⟨b, hb, hc⟩ := hc
          split at hc
          · cases hc
          · simp only [Option.bind_eq_some_iff, Option.some.injEq] at hc
            obtain ⟨z, hz, a, ha, c, hc', rfl⟩ := hc
            have : u = t := by simpa using hu
            subst this
            exact W (does_append hst hA ho rfl h1 h2 he hz hb ha hc' hp)
      · rename_i x y t ts h1 h2
        simp only [Option.bind_eq_bind, Option.bind_eq_some_iff, Option.pure_def, Option.some.injEq] at hc
        obtain ⟨e, he, z, hz, a, ha, b, hb, rfl⟩ := hc
        exact W (does_copy hst hA ho rfl h1 h2 he hz ha hb hp)
      · rename_i x t ts h1 h2
        simp only [Option.bind_eq_bind, Option.bind_eq_some_iff, Option.pure_def, Option.some.injEq] at hc
        obtain ⟨e, he, z, hz, a, ha, rfl⟩ := hc
        exact W (does_clear hst hA ho rfl h1 h2 he hz ha hp)
      · rename_i x y h1
        simp only [Option.bind_eq_bind, Option.bind_eq_some_iff, Option.pure_def, Option.some.injEq] at hc
        obtain ⟨a, ha, b, hb, rfl⟩ := hc
        exact W (does_min hst hA ho rfl h1 ha hb hp)
      · rename_i x y h1
        simp only [Option.bind_eq_bind, Option.bind_eq_some_iff, Option.pure_def, Option.some.injEq] at hc
        obtain ⟨a, ha, b, hb, rfl⟩ := hc
        exact W (does_max hst hA ho rfl h1 ha hb hp)
      · cases hc
  all_goals (simp [compPrim, ho] at hc)
end Go.AM
