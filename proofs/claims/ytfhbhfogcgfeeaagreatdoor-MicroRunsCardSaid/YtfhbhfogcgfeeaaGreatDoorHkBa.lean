import Derived.Test.YtfhbhfogcgfeeaaGreatDoorHpB
set_option linter.unusedVariables false
set_option linter.unusedSimpArgs false
set_option maxRecDepth 100000
namespace Go.AM.G
open Go Go.AM
theorem znY {m:Mem}{v u:V}{n k:Nat}{w x:Nat->Nat}(hv:Rd m v 1 n (zz w)) (hu:Rd m u 1 k (zz x)) (hn:n<4611686018427387904):C S zgu [v,u] m (fun r m'=>r= .bool (decide (n=k/\ ∀i,i<n->w i=x i))/\m'=m):=by
 have A:=hv.ar;have B:=hu.ar
 by_cases h:n=k
 case neg=>
  have h1:((n:Int)=(k:Int))=False:=eq_false (by omega);have h2:(n=k/\ ∀i,i<n->w i=x i)=False:=eq_false fun e=>h e.1
  refine fn rfl ?_
  simp
 subst h;have h1:((n:Int)=(n:Int))=True:=eq_true rfl;refine fn rfl ?_;refine range (α:=Unit) n (fun _=>[(0,v),(1,u)]) (fun j _ M=>M=m/\ ∀i,i<j->w i=x i) () ⟨rfl,fun i hi=>absurd hi (Nat.not_lt_zero _)⟩ ?_ ?_
 ·rintro j ⟨⟩ fr _ hj F ⟨rfl,hj2⟩
  by_cases e:w j=x j
  ·have e':((w j:Int)=(x j:Int))=True:=eq_true (by omega)
   refine am ?_;exact ⟨(),zg,rfl,fun i hi=>by by_cases h:i=j;exact h▸e;exact hj2 i (by omega)⟩
  ·have e':((w j:Int)=(x j:Int))=False:=eq_false (by omega)
   refine am ?_;exact (decide_eq_false fun h=>e (h j hj)).symm
 ·rintro ⟨⟩ fr _ F ⟨rfl,hj2⟩
  have e2:id (∀i,i<n->w i=x i):=hj2;clear hj2;refine am ?_;exact (decide_eq_true (show ∀i,i<n->w i=x i from e2)).symm
end Go.AM.G
