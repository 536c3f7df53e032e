import Derived.Test.YtfhbhfogcgfeeaaGreatDoorAmW
set_option linter.unusedVariables false
set_option linter.unusedSimpArgs false
namespace Go.AM
open Go
def zvV (X Y:Told):Prop:=(∀f t,X f=some t->(∃t',Y f=some t'/\ ∀c a m r,t c a m=some r->t' c a m=some r)\/ ∀c a m,t c a m=none)/\ ∀f,X f=none->Y f=none
theorem zmz {F:Nat->Option ze}{X Y:Told}(hm:zhM X) (h:zvV X Y): ∀n,zeS (callN F X n) (callN F Y n)
 |0=>fun f a m r e=>by simp [callN] at e
 |n+1=>fun f a m r e=>by
  have ih:=zmz (F:=F) hm h n;simp only [callN] at e ⊢;cases hf:X f with
  |some t=>
   rw [hf] at e;rcases h.1 f t hf with ⟨t',h1,h2⟩|h1
   ·rw [h1]
    exact h2 _ _ _ _ (hm f t hf _ _ ih _ _ _ e)
   ·dsimp only at e
    rw [h1] at e;cases e
  |none=>
   rw [hf] at e;rw [h.2 f hf];dsimp only at e ⊢;cases hF:F f with
   |none=>rw [hF] at e;cases e
   |some fn=>
    rw [hF] at e;dsimp only at e ⊢
    split at e
    case isFalse=>cases e
    rename_i hl
    rw [if_pos hl];cases hx:exec (callN F X n) n fn.body (ziJ a) m with
    |none=>rw [hx] at e;cases e
    |some y=>
     rw [hx] at e;rw [zab ih (Nat.le_refl n) fn.body hx];exact e
theorem C.lift {S1 S2:Sys}(hF:S1.F=S2.F) (h:zvV S1.X S2.X){f:Nat}{args:List V}{m:Mem}{Q:V->Mem->Prop}(k:C S1 f args m Q):C S2 f args m Q:=by
 obtain ⟨n,v,m',e,q⟩:=k;refine ⟨n,v,m',?_,q⟩;have:=zmz (F:=S1.F) S1.mono h n _ _ _ _ e;rw [hF] at this;exact this
end Go.AM
