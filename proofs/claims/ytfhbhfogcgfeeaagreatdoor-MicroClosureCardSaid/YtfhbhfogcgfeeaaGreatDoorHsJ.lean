import Derived.Test.YtfhbhfogcgfeeaaGreatDoorHsA
set_option linter.unusedVariables false
set_option linter.unusedSimpArgs false
set_option maxRecDepth 100000
namespace Go.AM.G
open Go Go.AM
section
variable {Mm:Blk->Mem}{b n cap:Nat}{ex:Bool}{r:List (List V)}
theorem up0 (h:Pl Mm b){d:AN}(hd:d.size=n){a i j:Nat}(ha:a<n) (hj:j<n) (hn:n<100000000000000000){fr:Frame}(F:Has fr [(0,sv b n cap ex),(1,.int .i64 (a:Nat)),(10,.int .i64 (i:Nat)),(11,.int .i64 (j:Nat))])
  {Q:zar->Frame->Mem->Prop}(hQ: ∀fr',Has fr' [(0,sv b n cap ex),(1,.int .i64 (a:Nat)),(10,.int .i64 (Sort.scanUp (fun x=>ltN x d[a]!) d j i:Nat)),(11,.int .i64 (j:Nat))]->Q (.exit 0) fr' (at_ Mm r d)):
  W S (.loop za2) fr (at_ Mm r d) Q:=by
 have i1:=zad;have i3:= @zei b n cap ex;have hg0: ∀X,(Mm X)[b]? =some X:=fun X=>by have:=h.get X [];simpa using this
 have hQ':=zU hQ;clear h hQ
 let I:=fun (k:Nat) (fr:Frame) (m':Mem)=> ∃i':Nat,k=j+2-i'/\Sort.scanUp (fun x=>ltN x d[a]!) d j i'=Sort.scanUp (fun x=>ltN x d[a]!) d j i/\Has fr [(0,sv b n cap ex),(1,.int .i64 (a:Nat)),(10,.int .i64 (i':Nat)),(11,.int .i64 (j:Nat))]/\m'=at_ Mm r d
 refine zW I ?_ (j+2-i) ⟨i,rfl,rfl,F,rfl⟩;clear F;rintro k fr _ ⟨i',rfl,hq,F,rfl⟩;have hq':=zU hq;clear hq
 by_cases hij:i'<=j
 case neg=>
  have c1:((i':Int)<=(j:Int))=False:=eq_false (by omega);have e:=zU (hq'.down.symm.trans (show Sort.scanUp (fun x=>ltN x d[a]!) d j i'=i' by rw [Sort.scanUp,if_neg (by simp [hij])]));clear hij;refine into ?_;refine hQ'.down _ ?_;rw [e.down];exact zh
 have c1:((i':Int)<=(j:Int))=True:=eq_true (by omega);have w1:IntKind.i64.wrap ((i':Int)+1)=((i'+1:Nat):Int):=by rw [wrap_i64]<;>omega
 have l1:i'<n:=by omega
 have l1':i'<d.size:=by omega
 have la':a<d.size:=by omega
 refine into ?_;refine zN.mono ?_;rintro _ _ ⟨rfl,rfl⟩;cases hl:ltN d[i']! d[a]! with
 |true=>
  have e:=zU (hq'.down.symm.trans (show Sort.scanUp (fun x=>ltN x d[a]!) d j i'=Sort.scanUp (fun x=>ltN x d[a]!) d j (i'+1) by conv=>lhs;rw [Sort.scanUp,if_pos (by simp [hij,hl])]));refine am ?_;exact ⟨j+2-(i'+1),by omega,i'+1,rfl,e.down.symm,zh,rfl⟩
 |false=>
  have e:=zU (hq'.down.symm.trans (show Sort.scanUp (fun x=>ltN x d[a]!) d j i'=i' by rw [Sort.scanUp,if_neg (by simp [hl])]));refine am ?_;refine hQ'.down _ ?_;rw [e.down];exact zh
theorem up3 (h:Pl Mm b){d:AN}(hd:d.size=n){a i j:Nat}(ha:a<n) (hj:j<n) (hn:n<100000000000000000){fr:Frame}(F:Has fr [(0,sv b n cap ex),(1,.int .i64 (a:Nat)),(10,.int .i64 (i:Nat)),(11,.int .i64 (j:Nat))])
  {Q:zar->Frame->Mem->Prop}(hQ: ∀fr',Has fr' [(0,sv b n cap ex),(1,.int .i64 (a:Nat)),(10,.int .i64 (Sort.scanUp (fun x=>ltN x d[a]!) d j i:Nat)),(11,.int .i64 (j:Nat))]->Q (.exit 6) fr' (at_ Mm r d)):
  W S (.loop za4) fr (at_ Mm r d) Q:=by
 have i1:=zad;have i3:= @zei b n cap ex;have hg0: ∀X,(Mm X)[b]? =some X:=fun X=>by have:=h.get X [];simpa using this
 have hQ':=zU hQ;clear h hQ
 let I:=fun (k:Nat) (fr:Frame) (m':Mem)=> ∃i':Nat,k=j+2-i'/\Sort.scanUp (fun x=>ltN x d[a]!) d j i'=Sort.scanUp (fun x=>ltN x d[a]!) d j i/\Has fr [(0,sv b n cap ex),(1,.int .i64 (a:Nat)),(10,.int .i64 (i':Nat)),(11,.int .i64 (j:Nat))]/\m'=at_ Mm r d
 refine zW I ?_ (j+2-i) ⟨i,rfl,rfl,F,rfl⟩;clear F;rintro k fr _ ⟨i',rfl,hq,F,rfl⟩;have hq':=zU hq;clear hq
 by_cases hij:i'<=j
 case neg=>
  have c1:((i':Int)<=(j:Int))=False:=eq_false (by omega);have e:=zU (hq'.down.symm.trans (show Sort.scanUp (fun x=>ltN x d[a]!) d j i'=i' by rw [Sort.scanUp,if_neg (by simp [hij])]));clear hij;refine into ?_;refine hQ'.down _ ?_;rw [e.down];exact zh
 have c1:((i':Int)<=(j:Int))=True:=eq_true (by omega);have w1:IntKind.i64.wrap ((i':Int)+1)=((i'+1:Nat):Int):=by rw [wrap_i64]<;>omega
 have l1:i'<n:=by omega
 have l1':i'<d.size:=by omega
 have la':a<d.size:=by omega
 refine into ?_;refine zN.mono ?_;rintro _ _ ⟨rfl,rfl⟩;cases hl:ltN d[i']! d[a]! with
 |true=>
  have e:=zU (hq'.down.symm.trans (show Sort.scanUp (fun x=>ltN x d[a]!) d j i'=Sort.scanUp (fun x=>ltN x d[a]!) d j (i'+1) by conv=>lhs;rw [Sort.scanUp,if_pos (by simp [hij,hl])]));refine am ?_;exact ⟨j+2-(i'+1),by omega,i'+1,rfl,e.down.symm,zh,rfl⟩
 |false=>
  have e:=zU (hq'.down.symm.trans (show Sort.scanUp (fun x=>ltN x d[a]!) d j i'=i' by rw [Sort.scanUp,if_neg (by simp [hl])]));refine am ?_;refine hQ'.down _ ?_;rw [e.down];exact zh
theorem dn1 (h:Pl Mm b){d:AN}(hd:d.size=n){a i j:Nat}(ha:a<n) (hj:j<n) (hi:0<i) (hn:n<100000000000000000) (hin:i<=n){fr:Frame}(F:Has fr [(0,sv b n cap ex),(1,.int .i64 (a:Nat)),(10,.int .i64 (i:Nat)),(11,.int .i64 (j:Nat))])
  {Q:zar->Frame->Mem->Prop}(hQ: ∀fr',Has fr' [(0,sv b n cap ex),(1,.int .i64 (a:Nat)),(10,.int .i64 (i:Nat)),(11,.int .i64 (Sort.scanDown (fun x=> !ltN x d[a]!) d i j:Nat))]->Q (.exit 2) fr' (at_ Mm r d)):
  W S (.loop za3) fr (at_ Mm r d) Q:=by
 have i1:=zad;have i3:= @zei b n cap ex;have hg0: ∀X,(Mm X)[b]? =some X:=fun X=>by have:=h.get X [];simpa using this
 have hQ':=zU hQ;clear h hQ
 let I:=fun (j':Nat) (fr:Frame) (m':Mem)=>j'<=j/\Sort.scanDown (fun x=> !ltN x d[a]!) d i j'=Sort.scanDown (fun x=> !ltN x d[a]!) d i j/\Has fr [(0,sv b n cap ex),(1,.int .i64 (a:Nat)),(10,.int .i64 (i:Nat)),(11,.int .i64 (j':Nat))]/\m'=at_ Mm r d
 refine zW I ?_ j ⟨Nat.le_refl _,rfl,F,rfl⟩;clear F;rintro j' fr _ ⟨hj',hq,F,rfl⟩;have hq':=zU hq;clear hq
 by_cases hij:i<=j'
 case neg=>
  have c1:((i:Int)<=(j':Int))=False:=eq_false (by omega);have e:=zU (hq'.down.symm.trans (show Sort.scanDown (fun x=> !ltN x d[a]!) d i j'=j' by
   cases j' with
   |zero=>rfl
   |succ j'=>rw [Sort.scanDown,if_neg (by simp only [Bool.and_eq_true,decide_eq_true_eq];omega)]))
  clear hij;refine into ?_;refine hQ'.down _ ?_;rw [e.down];exact zh
 obtain ⟨q,rfl⟩: ∃q,j'=q+1:=⟨j'-1,by omega⟩
 have c1:((i:Int)<=((q+1:Nat):Int))=True:=eq_true (by omega);have w1:IntKind.i64.wrap (((q+1:Nat):Int)-1)=(q:Int):=by rw [wrap_i64]<;>omega
 have l1:q+1<n:=by omega
 have l1':q+1<d.size:=by omega
 have la':a<d.size:=by omega
 refine into ?_;refine zN.mono ?_;rintro _ _ ⟨rfl,rfl⟩;cases hl:ltN d[q+1]! d[a]! with
 |false=>
  have e:=zU (hq'.down.symm.trans (show Sort.scanDown (fun x=> !ltN x d[a]!) d i (q+1)=Sort.scanDown (fun x=> !ltN x d[a]!) d i q by conv=>lhs;rw [Sort.scanDown,if_pos (by simp [hij,hl])]));refine am ?_;exact ⟨q,by omega,by omega,e.down.symm,zh,rfl⟩
 |true=>
  have e:=zU (hq'.down.symm.trans (show Sort.scanDown (fun x=> !ltN x d[a]!) d i (q+1)=q+1 by rw [Sort.scanDown,if_neg (by simp [hl])]));refine am ?_;refine hQ'.down _ ?_;rw [e.down];exact zh
theorem dn4 (h:Pl Mm b){d:AN}(hd:d.size=n){a i j:Nat}(ha:a<n) (hj:j<n) (hi:0<i) (hn:n<100000000000000000) (hin:i<=n){fr:Frame}(F:Has fr [(0,sv b n cap ex),(1,.int .i64 (a:Nat)),(10,.int .i64 (i:Nat)),(11,.int .i64 (j:Nat))])
  {Q:zar->Frame->Mem->Prop}(hQ: ∀fr',Has fr' [(0,sv b n cap ex),(1,.int .i64 (a:Nat)),(10,.int .i64 (i:Nat)),(11,.int .i64 (Sort.scanDown (fun x=> !ltN x d[a]!) d i j:Nat))]->Q (.exit 8) fr' (at_ Mm r d)):
  W S (.loop za5) fr (at_ Mm r d) Q:=by
 have i1:=zad;have i3:= @zei b n cap ex;have hg0: ∀X,(Mm X)[b]? =some X:=fun X=>by have:=h.get X [];simpa using this
 have hQ':=zU hQ;clear h hQ
 let I:=fun (j':Nat) (fr:Frame) (m':Mem)=>j'<=j/\Sort.scanDown (fun x=> !ltN x d[a]!) d i j'=Sort.scanDown (fun x=> !ltN x d[a]!) d i j/\Has fr [(0,sv b n cap ex),(1,.int .i64 (a:Nat)),(10,.int .i64 (i:Nat)),(11,.int .i64 (j':Nat))]/\m'=at_ Mm r d
 refine zW I ?_ j ⟨Nat.le_refl _,rfl,F,rfl⟩;clear F;rintro j' fr _ ⟨hj',hq,F,rfl⟩;have hq':=zU hq;clear hq
 by_cases hij:i<=j'
 case neg=>
  have c1:((i:Int)<=(j':Int))=False:=eq_false (by omega);have e:=zU (hq'.down.symm.trans (show Sort.scanDown (fun x=> !ltN x d[a]!) d i j'=j' by
   cases j' with
   |zero=>rfl
   |succ j'=>rw [Sort.scanDown,if_neg (by simp only [Bool.and_eq_true,decide_eq_true_eq];omega)]))
  clear hij;refine into ?_;refine hQ'.down _ ?_;rw [e.down];exact zh
 obtain ⟨q,rfl⟩: ∃q,j'=q+1:=⟨j'-1,by omega⟩
 have c1:((i:Int)<=((q+1:Nat):Int))=True:=eq_true (by omega);have w1:IntKind.i64.wrap (((q+1:Nat):Int)-1)=(q:Int):=by rw [wrap_i64]<;>omega
 have l1:q+1<n:=by omega
 have l1':q+1<d.size:=by omega
 have la':a<d.size:=by omega
 refine into ?_;refine zN.mono ?_;rintro _ _ ⟨rfl,rfl⟩;cases hl:ltN d[q+1]! d[a]! with
 |false=>
  have e:=zU (hq'.down.symm.trans (show Sort.scanDown (fun x=> !ltN x d[a]!) d i (q+1)=Sort.scanDown (fun x=> !ltN x d[a]!) d i q by conv=>lhs;rw [Sort.scanDown,if_pos (by simp [hij,hl])]));refine am ?_;exact ⟨q,by omega,by omega,e.down.symm,zh,rfl⟩
 |true=>
  have e:=zU (hq'.down.symm.trans (show Sort.scanDown (fun x=> !ltN x d[a]!) d i (q+1)=q+1 by rw [Sort.scanDown,if_neg (by simp [hl])]));refine am ?_;refine hQ'.down _ ?_;rw [e.down];exact zh
theorem upE (h:Pl Mm b){d:AN}(hd:d.size=n){a i j:Nat}(ha:a<n) (hj:j<n) (hn:n<100000000000000000){fr:Frame}(F:Has fr [(0,sv b n cap ex),(1,.int .i64 (a:Nat)),(9,.int .i64 (i:Nat)),(10,.int .i64 (j:Nat))])
  {Q:zar->Frame->Mem->Prop}(hQ: ∀fr',Has fr' [(0,sv b n cap ex),(1,.int .i64 (a:Nat)),(9,.int .i64 (Sort.scanUp (fun x=> !ltN d[a]! x) d j i:Nat)),(10,.int .i64 (j:Nat))]->Q (.exit 2) fr' (at_ Mm r d)):
  W S (.loop zaz) fr (at_ Mm r d) Q:=by
 have i1:=zad;have i3:= @zei b n cap ex;have hg0: ∀X,(Mm X)[b]? =some X:=fun X=>by have:=h.get X [];simpa using this
 have hQ':=zU hQ;clear h hQ
 let I:=fun (k:Nat) (fr:Frame) (m':Mem)=> ∃i':Nat,k=j+2-i'/\Sort.scanUp (fun x=> !ltN d[a]! x) d j i'=Sort.scanUp (fun x=> !ltN d[a]! x) d j i/\Has fr [(0,sv b n cap ex),(1,.int .i64 (a:Nat)),(9,.int .i64 (i':Nat)),(10,.int .i64 (j:Nat))]/\m'=at_ Mm r d
 refine zW I ?_ (j+2-i) ⟨i,rfl,rfl,F,rfl⟩;clear F;rintro k fr _ ⟨i',rfl,hq,F,rfl⟩;have hq':=zU hq;clear hq
 by_cases hij:i'<=j
 case neg=>
  have c1:((i':Int)<=(j:Int))=False:=eq_false (by omega);have e:=zU (hq'.down.symm.trans (show Sort.scanUp (fun x=> !ltN d[a]! x) d j i'=i' by rw [Sort.scanUp,if_neg (by simp [hij])]));clear hij;refine into ?_;refine hQ'.down _ ?_;rw [e.down];exact zh
 have c1:((i':Int)<=(j:Int))=True:=eq_true (by omega);have w1:IntKind.i64.wrap ((i':Int)+1)=((i'+1:Nat):Int):=by rw [wrap_i64]<;>omega
 have l1:i'<n:=by omega
 have l1':i'<d.size:=by omega
 have la':a<d.size:=by omega
 refine into ?_;refine zN.mono ?_;rintro _ _ ⟨rfl,rfl⟩;cases hl:ltN d[a]! d[i']! with
 |false=>
  have e:=zU (hq'.down.symm.trans (show Sort.scanUp (fun x=> !ltN d[a]! x) d j i'=Sort.scanUp (fun x=> !ltN d[a]! x) d j (i'+1) by conv=>lhs;rw [Sort.scanUp,if_pos (by simp [hij,hl])]));refine am ?_;exact ⟨j+2-(i'+1),by omega,i'+1,rfl,e.down.symm,zh,rfl⟩
 |true=>
  have e:=zU (hq'.down.symm.trans (show Sort.scanUp (fun x=> !ltN d[a]! x) d j i'=i' by rw [Sort.scanUp,if_neg (by simp [hl])]));refine am ?_;refine hQ'.down _ ?_;rw [e.down];exact zh
theorem dnE (h:Pl Mm b){d:AN}(hd:d.size=n){a i j:Nat}(ha:a<n) (hj:j<n) (hi:0<i) (hn:n<100000000000000000) (hin:i<=n){fr:Frame}(F:Has fr [(0,sv b n cap ex),(1,.int .i64 (a:Nat)),(9,.int .i64 (i:Nat)),(10,.int .i64 (j:Nat))])
  {Q:zar->Frame->Mem->Prop}(hQ: ∀fr',Has fr' [(0,sv b n cap ex),(1,.int .i64 (a:Nat)),(9,.int .i64 (i:Nat)),(10,.int .i64 (Sort.scanDown (fun x=>ltN d[a]! x) d i j:Nat))]->Q (.exit 4) fr' (at_ Mm r d)):
  W S (.loop zaA) fr (at_ Mm r d) Q:=by
 have i1:=zad;have i3:= @zei b n cap ex;have hg0: ∀X,(Mm X)[b]? =some X:=fun X=>by have:=h.get X [];simpa using this
 have hQ':=zU hQ;clear h hQ
 let I:=fun (j':Nat) (fr:Frame) (m':Mem)=>j'<=j/\Sort.scanDown (fun x=>ltN d[a]! x) d i j'=Sort.scanDown (fun x=>ltN d[a]! x) d i j/\Has fr [(0,sv b n cap ex),(1,.int .i64 (a:Nat)),(9,.int .i64 (i:Nat)),(10,.int .i64 (j':Nat))]/\m'=at_ Mm r d
 refine zW I ?_ j ⟨Nat.le_refl _,rfl,F,rfl⟩;clear F;rintro j' fr _ ⟨hj',hq,F,rfl⟩;have hq':=zU hq;clear hq
 by_cases hij:i<=j'
 case neg=>
  have c1:((i:Int)<=(j':Int))=False:=eq_false (by omega);have e:=zU (hq'.down.symm.trans (show Sort.scanDown (fun x=>ltN d[a]! x) d i j'=j' by
   cases j' with
   |zero=>rfl
   |succ j'=>rw [Sort.scanDown,if_neg (by simp only [Bool.and_eq_true,decide_eq_true_eq];omega)]))
  clear hij;refine into ?_;refine hQ'.down _ ?_;rw [e.down];exact zh
 obtain ⟨q,rfl⟩: ∃q,j'=q+1:=⟨j'-1,by omega⟩
 have c1:((i:Int)<=((q+1:Nat):Int))=True:=eq_true (by omega);have w1:IntKind.i64.wrap (((q+1:Nat):Int)-1)=(q:Int):=by rw [wrap_i64]<;>omega
 have l1:q+1<n:=by omega
 have l1':q+1<d.size:=by omega
 have la':a<d.size:=by omega
 refine into ?_;refine zN.mono ?_;rintro _ _ ⟨rfl,rfl⟩;cases hl:ltN d[a]! d[q+1]! with
 |true=>
  have e:=zU (hq'.down.symm.trans (show Sort.scanDown (fun x=>ltN d[a]! x) d i (q+1)=Sort.scanDown (fun x=>ltN d[a]! x) d i q by conv=>lhs;rw [Sort.scanDown,if_pos (by simp [hij,hl])]));refine am ?_;exact ⟨q,by omega,by omega,e.down.symm,zh,rfl⟩
 |false=>
  have e:=zU (hq'.down.symm.trans (show Sort.scanDown (fun x=>ltN d[a]! x) d i (q+1)=q+1 by rw [Sort.scanDown,if_neg (by simp [hl])]));refine am ?_;refine hQ'.down _ ?_;rw [e.down];exact zh
end
end Go.AM.G
namespace Go.AM.G
open Go Go.AM
theorem zgv {p:Nat->Bool}{d:AN}{j i:Nat}(h:i<=j+1):i<=Sort.scanUp p d j i/\Sort.scanUp p d j i<=j+1:=by
 fun_induction Sort.scanUp p d j i with
 |case1 i h1 ih=>
  simp only [Bool.and_eq_true,decide_eq_true_eq] at h1;have:=ih (by omega);omega
 |case2 i h1=>omega
theorem zdX {p:Nat->Bool}{d:AN}{i:Nat}: ∀{j:Nat},i<=j+1->Sort.scanDown p d i j<=j/\i<=Sort.scanDown p d i j+1
 |0,h=>⟨Nat.le_refl _,h⟩
 |j+1,h=>by
  rw [Sort.scanDown]
  split
  ·rename_i h1
   simp only [Bool.and_eq_true,decide_eq_true_eq] at h1;have:=zdX (p:=p) (d:=d) (j:=j) h1.1;omega
  ·omega
theorem scanUp_ge {p:Nat->Bool}{d:AN}{j i:Nat}:i<=Sort.scanUp p d j i:=by
 fun_induction Sort.scanUp p d j i with
 |case1 i h1 ih=>omega
 |case2 i h1=>omega
theorem scanDown_le {p:Nat->Bool}{d:AN}{i:Nat}: ∀{j:Nat},Sort.scanDown p d i j<=j
 |0=>Nat.le_refl _
 |j+1=>by
  rw [Sort.scanDown]
  split
  ·have:=scanDown_le (p:=p) (d:=d) (i:=i) (j:=j);omega
  ·omega
theorem zfH {p:Nat->Bool}{d:AN}{i j:Nat}(h:¬ i<=j):Sort.scanUp p d j i=i:=by rw [Sort.scanUp,if_neg (by simp [h])]
theorem zf1 {p:Nat->Bool}{d:AN}{i j:Nat}(h:¬ i<=j):Sort.scanDown p d i j=j:=by
 cases j with
 |zero=>rfl
 |succ j=>rw [Sort.scanDown,if_neg (by simp only [Bool.and_eq_true,decide_eq_true_eq];omega)]
abbrev sU (d:AN) (a i j:Nat):Nat:=Sort.scanUp (fun x=>ltN x d[a]!) d j i
abbrev sD (d:AN) (a i j:Nat):Nat:=Sort.scanDown (fun x=> !ltN x d[a]!) d i j
theorem zf2 {a i j:Nat}{d:AN}:Sort.partLoop ltN a i j d=if sU d a i j>sD d a (sU d a i j) j then (sD d a (sU d a i j) j,d) else Sort.partLoop ltN a (sU d a i j+1) (sD d a (sU d a i j) j-1) (Sort.swp d (sU d a i j) (sD d a (sU d a i j) j)):=by
 rw [Sort.partLoop];have h1:i<=sU d a i j:=scanUp_ge;have h2:sD d a (sU d a i j) j<=j:=scanDown_le
 split
 ·rfl
 ·rename_i h3
  have h3:¬ sU d a i j>sD d a (sU d a i j) j:=h3;rw [dif_pos (show sD d a (sU d a i j) j-1+1-(sU d a i j+1)<j+1-i by omega)]
theorem zi8 {a:Nat}: ∀(k i j:Nat) (d:AN),j+1-i<=k->(Sort.partLoop ltN a i j d).2.size=d.size
 |k,i,j,d,hk=>by
  rw [zf2];have h1:i<=sU d a i j:=scanUp_ge;have h2:sD d a (sU d a i j) j<=j:=scanDown_le
  split
  ·rfl
  ·rename_i h3
   cases k with
   |zero=>omega
   |succ k=>rw [zi8 k (sU d a i j+1) (sD d a (sU d a i j) j-1) _ (by omega),swp_size]
theorem zlR {a:Nat}: ∀(k i j:Nat) (d:AN),j+1-i<=k->a<i->a<=j->a<=(Sort.partLoop ltN a i j d).1/\(Sort.partLoop ltN a i j d).1<=j
 |k,i,j,d,hk,h0,h00=>by
  rw [zf2];have h1:i<=sU d a i j:=scanUp_ge;have h2:sD d a (sU d a i j) j<=j:=scanDown_le
  split
  ·rename_i h3
   refine ⟨?_,h2⟩
   by_cases h4:i<=j+1
   ·have h5:=zgv (p:=fun x=>ltN x d[a]!) (d:=d) h4
    have h6:sD d a (sU d a i j) j<=j/\sU d a i j<=sD d a (sU d a i j) j+1:=zdX h5.2;show a<=sD d a (sU d a i j) j;omega
   ·have e1:sU d a i j=i:=zfH (by omega)
    have e2:sD d a i j=j:=zf1 (by omega);show a<=sD d a (sU d a i j) j;rw [e1,e2];exact h00
  ·rename_i h3
   cases k with
   |zero=>omega
   |succ k=>
    have:=zlR (a:=a) k (sU d a i j+1) (sD d a (sU d a i j) j-1) (Sort.swp d (sU d a i j) (sD d a (sU d a i j) j)) (by omega) (by omega) (by omega);omega
section
variable {Mm:Blk->Mem}{b n cap:Nat}{ex:Bool}{r:List (List V)}
theorem zif (h:Pl Mm b){d0:AN}(hd0:d0.size=n){a c p:Nat}(hac:a<c) (hc:c<=n) (hp:a<=p/\p<c) (hn:n<100000000000000000):
  C S zbf [sv b n cap ex,.int .i64 (a:Nat),.int .i64 (c:Nat),.int .i64 (p:Nat)] (at_ Mm r d0) (fun v m'=>v= .tup [.int .i64 ((Sort.partition ltN d0 a c p).1:Nat),.bool (Sort.partition ltN d0 a c p).2.1]/\m'=at_ Mm r (Sort.partition ltN d0 a c p).2.2):=by
 have i1:=zad;have i2:=zbK;have i3:= @zei b n cap ex;have i4:=zcw;have hg0: ∀X,(Mm X)[b]? =some X:=fun X=>by have:=h.get X [];simpa using this
 have hs0: ∀X Y,(Mm X).set b Y=Mm Y:=fun X Y=>by have:=h.set X Y [];simpa using this
 have h':=zU h;clear h;have w0:IntKind.i64.wrap ((a:Int)+1)=((a+1:Nat):Int):=by rw [wrap_i64]<;>omega
 have w1:IntKind.i64.wrap ((c:Int)-1)=((c-1:Nat):Int):=by rw [wrap_i64]<;>omega
 have la:a<n:=by omega
 have lp:p<n:=by omega
 have la':a<d0.size:=by omega
 have lp':p<d0.size:=by omega
 obtain ⟨d,ed⟩: ∃d,Sort.swp d0 a p=d:=⟨_,rfl⟩
 have hd:d.size=n:=by rw [<-ed,swp_size];exact hd0
 have ed':(d0.setIfInBounds a d0[p]!).setIfInBounds p d0[a]! =d:=ed;obtain ⟨i,ei⟩: ∃i,Sort.scanUp (fun x=>ltN x d[a]!) d (c-1) (a+1)=i:=⟨_,rfl⟩
 obtain ⟨j,ej⟩: ∃j,Sort.scanDown (fun x=> !ltN x d[a]!) d i (c-1)=j:=⟨_,rfl⟩
 have b1:=zgv (p:=fun x=>ltN x d[a]!) (d:=d) (j:=c-1) (i:=a+1) (by omega);rw [ei] at b1;have b2:=zdX (p:=fun x=> !ltN x d[a]!) (d:=d) (i:=i) (j:=c-1) b1.2;rw [ej] at b2;have tgt:PLift (Sort.partition ltN d0 a c p=if i>j then (j,true,Sort.swp d j a) else ((Sort.partLoop ltN a (i+1) (j-1) (Sort.swp d i j)).1,false,Sort.swp (Sort.partLoop ltN a (i+1) (j-1) (Sort.swp d i j)).2 (Sort.partLoop ltN a (i+1) (j-1) (Sort.swp d i j)).1 a)):=⟨by
  unfold Sort.partition;dsimp only;rw [ed,ei,ej]⟩
 have ei':=zU ei;have ej':=zU ej;clear ei ej ed;refine fn rfl ?_;refine up0 (cap:=cap) (ex:=ex) (a:=a) (i:=a+1) (j:=c-1) h'.down hd la (by omega) hn zh ?_;intro fr F;rw [ei'.down] at F;refine am ?_;refine dn1 (cap:=cap) (ex:=ex) (a:=a) (i:=i) (j:=c-1) h'.down hd la (by omega) (by omega) hn (by omega) zh ?_;intro fr F;rw [ej'.down] at F;have ljn:j<n:=by omega
 have lj':j<d.size:=by omega
 have lad:a<d.size:=by omega
 by_cases hij:j<i
 ·have c1:((j:Int)<(i:Int))=True:=eq_true (by omega)
  have e:=zU (tgt.down.trans (if_pos hij));clear tgt;refine am ?_;rw [e.down];exact ⟨rfl,rfl⟩
 have c1:((j:Int)<(i:Int))=False:=eq_false (by omega);have e:=zU (tgt.down.trans (if_neg hij));clear tgt;have lin:i<n:=by omega
 have li':i<d.size:=by omega
 have w2:IntKind.i64.wrap ((i:Int)+1)=((i+1:Nat):Int):=by rw [wrap_i64]<;>omega
 have w3:IntKind.i64.wrap ((j:Int)-1)=((j-1:Nat):Int):=by rw [wrap_i64]<;>omega
 refine am ?_
 let I:=fun (k:Nat) (fr:Frame) (m':Mem)=> ∃(i' j':Nat) (d':AN),k=j'+2-i'/\a<i'/\a<=j'/\i'<=j'+2/\j'<n/\i'<=n/\d'.size=n/\Sort.partLoop ltN a i' j' d'=Sort.partLoop ltN a (i+1) (j-1) (Sort.swp d i j)/\Has fr [(0,sv b n cap ex),(1,.int .i64 (a:Nat)),(10,.int .i64 (i':Nat)),(11,.int .i64 (j':Nat))]/\m'=at_ Mm r d'
 refine zW I ?_ (j-1+2-(i+1)) ⟨i+1,j-1,Sort.swp d i j,rfl,by omega,by omega,by omega,by omega,by omega,by rw [swp_size];exact hd,rfl,zh,rfl⟩;clear F;rintro k fr _ ⟨i',j',d',rfl,hai',haj',hij',hjn',hin',hd',hq,F,rfl⟩;have hq':=zU hq;clear hq;obtain ⟨u,eu⟩: ∃u,sU d' a i' j'=u:=⟨_,rfl⟩
 obtain ⟨v,ev⟩: ∃v,sD d' a u j'=v:=⟨_,rfl⟩
 have bu:i'<=u/\(i'<=j'+1->u<=j'+1)/\(¬ i'<=j'+1->u=i'):=by
  rw [<-eu];exact ⟨scanUp_ge,fun h=>(zgv h).2,fun h=>zfH (by omega)⟩
 have bv:v<=j'/\(u<=j'+1->u<=v+1)/\(¬ u<=j'+1->v=j'):=by
  rw [<-ev];exact ⟨scanDown_le,fun h=>(zdX h).2,fun h=>zf1 (by omega)⟩
 have stp:PLift (Sort.partLoop ltN a i' j' d'=if u>v then (v,d') else Sort.partLoop ltN a (u+1) (v-1) (Sort.swp d' u v)):=⟨by rw [zf2,eu,ev]⟩
 have hun:u<=n:=by
  by_cases h:i'<=j'+1
  ·have:=bu.2.1 h;omega
  ·have:=bu.2.2 h;omega
 have hav:a<=v:=by
  by_cases h:u<=j'+1
  ·have:=bv.2.1 h;omega
  ·have:=bv.2.2 h;omega
 have hv:v<=j':=bv.1;have hu:i'<=u:=bu.1;have eu':=zU eu;have ev':=zU ev;clear eu ev bu bv;have lvn:v<n:=by omega
 have lv':v<d'.size:=by omega
 have lad':a<d'.size:=by omega
 refine into ?_;refine up3 (cap:=cap) (ex:=ex) (a:=a) (i:=i') (j:=j') h'.down hd' la hjn' hn zh ?_;clear F;intro fr F;rw [show Sort.scanUp (fun x=>ltN x d'[a]!) d' j' i'=u from eu'.down] at F;refine am ?_;refine dn4 (cap:=cap) (ex:=ex) (a:=a) (i:=u) (j:=j') h'.down hd' la hjn' (by omega) hn hun zh ?_;clear F;intro fr F;rw [show Sort.scanDown (fun x=> !ltN x d'[a]!) d' u j'=v from ev'.down] at F
 by_cases hvu:v<u
 ·have c2:((v:Int)<(u:Int))=True:=eq_true (by omega)
  have e2:=zU (hq'.down.symm.trans (stp.down.trans (if_pos hvu)));clear stp;refine am ?_;rw [e.down,e2.down];exact ⟨rfl,rfl⟩
 have c2:((v:Int)<(u:Int))=False:=eq_false (by omega);have e2:=zU (hq'.down.symm.trans (stp.down.trans (if_neg hvu)));clear stp;have lun:u<n:=by omega
 have lu':u<d'.size:=by omega
 have w4:IntKind.i64.wrap ((u:Int)+1)=((u+1:Nat):Int):=by rw [wrap_i64]<;>omega
 have w5:IntKind.i64.wrap ((v:Int)-1)=((v-1:Nat):Int):=by rw [wrap_i64]<;>omega
 refine am ?_;exact ⟨v-1+2-(u+1),by omega,u+1,v-1,Sort.swp d' u v,rfl,by omega,by omega,by omega,by omega,by omega,by rw [swp_size];exact hd',e2.down.symm,zh,rfl⟩
end
end Go.AM.G
namespace Go.AM.G
open Go Go.AM
abbrev sUe (d:AN) (a i j:Nat):Nat:=Sort.scanUp (fun x=> !ltN d[a]! x) d j i
abbrev sDe (d:AN) (a i j:Nat):Nat:=Sort.scanDown (fun x=>ltN d[a]! x) d i j
theorem zih {a i j:Nat}{d:AN}:Sort.partEqLoop ltN a i j d=if sUe d a i j>sDe d a (sUe d a i j) j then (sUe d a i j,d) else Sort.partEqLoop ltN a (sUe d a i j+1) (sDe d a (sUe d a i j) j-1) (Sort.swp d (sUe d a i j) (sDe d a (sUe d a i j) j)):=by
 rw [Sort.partEqLoop];have h1:i<=sUe d a i j:=scanUp_ge;have h2:sDe d a (sUe d a i j) j<=j:=scanDown_le
 split
 ·rfl
 ·rename_i h3
  have h3:¬ sUe d a i j>sDe d a (sUe d a i j) j:=h3;rw [dif_pos (show sDe d a (sUe d a i j) j-1+1-(sUe d a i j+1)<j+1-i by omega)]
theorem zlS {a:Nat}: ∀(k i j:Nat) (d:AN),j+1-i<=k->(Sort.partEqLoop ltN a i j d).2.size=d.size
 |k,i,j,d,hk=>by
  rw [zih];have h1:i<=sUe d a i j:=scanUp_ge;have h2:sDe d a (sUe d a i j) j<=j:=scanDown_le
  split
  ·rfl
  ·rename_i h3
   cases k with
   |zero=>omega
   |succ k=>rw [zlS k (sUe d a i j+1) (sDe d a (sUe d a i j) j-1) _ (by omega),swp_size]
theorem zpu {a c:Nat}: ∀(k i j:Nat) (d:AN),j+1-i<=k->a<i->i<=c->j<c->a<(Sort.partEqLoop ltN a i j d).1/\(Sort.partEqLoop ltN a i j d).1<=c
 |k,i,j,d,hk,h0,h00,hj=>by
  rw [zih];have h1:i<=sUe d a i j:=scanUp_ge;have h2:sDe d a (sUe d a i j) j<=j:=scanDown_le
  split
  ·rename_i h3
   by_cases h4:i<=j+1
   ·have h5:i<=sUe d a i j/\sUe d a i j<=j+1:=zgv h4
    show a<sUe d a i j/\sUe d a i j<=c;omega
   ·have e1:sUe d a i j=i:=zfH (by omega)
    show a<sUe d a i j/\sUe d a i j<=c;omega
  ·rename_i h3
   cases k with
   |zero=>omega
   |succ k=>exact zpu (a:=a) (c:=c) k (sUe d a i j+1) (sDe d a (sUe d a i j) j-1) (Sort.swp d (sUe d a i j) (sDe d a (sUe d a i j) j)) (by omega) (by omega) (by omega) (by omega)
section
variable {Mm:Blk->Mem}{b n cap:Nat}{ex:Bool}{r:List (List V)}
theorem zr2 (h:Pl Mm b){d0:AN}(hd0:d0.size=n){a c p:Nat}(hac:a<c) (hc:c<=n) (hp:a<=p/\p<c) (hn:n<100000000000000000):
  C S zaC [sv b n cap ex,.int .i64 (a:Nat),.int .i64 (c:Nat),.int .i64 (p:Nat)] (at_ Mm r d0) (fun v m'=>v= .int .i64 ((Sort.partitionEqual ltN d0 a c p).1:Nat)/\m'=at_ Mm r (Sort.partitionEqual ltN d0 a c p).2):=by
 have i1:=zad;have i2:=zbK;have i3:= @zei b n cap ex;have i4:=zcw;have hg0: ∀X,(Mm X)[b]? =some X:=fun X=>by have:=h.get X [];simpa using this
 have hs0: ∀X Y,(Mm X).set b Y=Mm Y:=fun X Y=>by have:=h.set X Y [];simpa using this
 have h':=zU h;clear h;have w0:IntKind.i64.wrap ((a:Int)+1)=((a+1:Nat):Int):=by rw [wrap_i64]<;>omega
 have w1:IntKind.i64.wrap ((c:Int)-1)=((c-1:Nat):Int):=by rw [wrap_i64]<;>omega
 have la:a<n:=by omega
 have lp:p<n:=by omega
 have la':a<d0.size:=by omega
 have lp':p<d0.size:=by omega
 obtain ⟨d,ed⟩: ∃d,Sort.swp d0 a p=d:=⟨_,rfl⟩
 have hd:d.size=n:=by rw [<-ed,swp_size];exact hd0
 have ed':(d0.setIfInBounds a d0[p]!).setIfInBounds p d0[a]! =d:=ed;have tgt:PLift (Sort.partitionEqual ltN d0 a c p=Sort.partEqLoop ltN a (a+1) (c-1) d):=⟨by
  unfold Sort.partitionEqual;rw [ed]⟩
 clear ed;refine fn rfl ?_
 let I:=fun (k:Nat) (fr:Frame) (m':Mem)=> ∃(i' j':Nat) (d':AN),k=j'+2-i'/\a<i'/\a<=j'/\i'<=j'+2/\j'<n/\i'<=n/\d'.size=n/\Sort.partEqLoop ltN a i' j' d'=Sort.partEqLoop ltN a (a+1) (c-1) d/\Has fr [(0,sv b n cap ex),(1,.int .i64 (a:Nat)),(9,.int .i64 (i':Nat)),(10,.int .i64 (j':Nat))]/\m'=at_ Mm r d'
 refine zW I ?_ (c-1+2-(a+1)) ⟨a+1,c-1,d,rfl,by omega,by omega,by omega,by omega,by omega,hd,rfl,zh,rfl⟩;rintro k fr _ ⟨i',j',d',rfl,hai',haj',hij',hjn',hin',hd',hq,F,rfl⟩;have hq':=zU hq;clear hq;obtain ⟨u,eu⟩: ∃u,sUe d' a i' j'=u:=⟨_,rfl⟩
 obtain ⟨v,ev⟩: ∃v,sDe d' a u j'=v:=⟨_,rfl⟩
 have bu:i'<=u/\(i'<=j'+1->u<=j'+1)/\(¬ i'<=j'+1->u=i'):=by
  rw [<-eu];exact ⟨scanUp_ge,fun h=>(zgv h).2,fun h=>zfH (by omega)⟩
 have bv:v<=j'/\(u<=j'+1->u<=v+1)/\(¬ u<=j'+1->v=j'):=by
  rw [<-ev];exact ⟨scanDown_le,fun h=>(zdX h).2,fun h=>zf1 (by omega)⟩
 have stp:PLift (Sort.partEqLoop ltN a i' j' d'=if u>v then (u,d') else Sort.partEqLoop ltN a (u+1) (v-1) (Sort.swp d' u v)):=⟨by rw [zih,eu,ev]⟩
 have hun:u<=n:=by
  by_cases h:i'<=j'+1
  ·have:=bu.2.1 h;omega
  ·have:=bu.2.2 h;omega
 have hav:a<=v:=by
  by_cases h:u<=j'+1
  ·have:=bv.2.1 h;omega
  ·have:=bv.2.2 h;omega
 have hv:v<=j':=bv.1;have hu:i'<=u:=bu.1;have eu':=zU eu;have ev':=zU ev;clear eu ev bu bv;have lvn:v<n:=by omega
 have lv':v<d'.size:=by omega
 have lad':a<d'.size:=by omega
 refine into ?_;refine upE (cap:=cap) (ex:=ex) (a:=a) (i:=i') (j:=j') h'.down hd' la hjn' hn zh ?_;clear F;intro fr F;rw [show Sort.scanUp (fun x=> !ltN d'[a]! x) d' j' i'=u from eu'.down] at F;refine am ?_;refine dnE (cap:=cap) (ex:=ex) (a:=a) (i:=u) (j:=j') h'.down hd' la hjn' (by omega) hn hun zh ?_;clear F;intro fr F;rw [show Sort.scanDown (fun x=>ltN d'[a]! x) d' u j'=v from ev'.down] at F
 by_cases hvu:v<u
 ·have c2:((v:Int)<(u:Int))=True:=eq_true (by omega)
  have e2:=zU (hq'.down.symm.trans (stp.down.trans (if_pos hvu)));clear stp;refine am ?_;rw [tgt.down,e2.down];exact ⟨rfl,rfl⟩
 have c2:((v:Int)<(u:Int))=False:=eq_false (by omega);have e2:=zU (hq'.down.symm.trans (stp.down.trans (if_neg hvu)));clear stp;have lun:u<n:=by omega
 have lu':u<d'.size:=by omega
 have w4:IntKind.i64.wrap ((u:Int)+1)=((u+1:Nat):Int):=by rw [wrap_i64]<;>omega
 have w5:IntKind.i64.wrap ((v:Int)-1)=((v-1:Nat):Int):=by rw [wrap_i64]<;>omega
 refine am ?_;exact ⟨v-1+2-(u+1),by omega,u+1,v-1,Sort.swp d' u v,rfl,by omega,by omega,by omega,by omega,by omega,by rw [swp_size];exact hd',e2.down.symm,zh,rfl⟩
end
end Go.AM.G
namespace Go.AM.G
open Go Go.AM
def T0 (d:AN) (a c lim:Nat) (wb wp:Bool) (p:Nat):AN:=
 if (decide (a>0)&& !ltN d[a-1]! d[p]!)=true then
  match Sort.partitionEqual ltN d a c p with
  |(mid,d4)=>if a<mid/\mid<=c then Sort.pdq ltN d4 mid c lim wb wp else d4
 else
  match Sort.partition ltN d a c p with
  |(mid,ap,d4)=>
   if a<=mid/\mid<c then
    if mid-a<c-mid then Sort.pdq ltN (Sort.pdq ltN d4 a mid lim true true) (mid+1) c lim (decide (mid-a ≥ (c-a)/8)) ap
    else Sort.pdq ltN (Sort.pdq ltN d4 (mid+1) c lim true true) a mid lim (decide (c-mid ≥ (c-a)/8)) ap
   else d4
def T1 (d:AN) (a c lim:Nat) (wb wp:Bool) (p:Nat) (x:Sort.Hint):AN:=
 if (if (wb&&wp&&decide (x= .increasing))=true then Sort.partialInsertionSort ltN d a c else (d,false)).2=true then (if (wb&&wp&&decide (x= .increasing))=true then Sort.partialInsertionSort ltN d a c else (d,false)).1
 else T0 (if (wb&&wp&&decide (x= .increasing))=true then Sort.partialInsertionSort ltN d a c else (d,false)).1 a c lim wb wp p
def T2 (d:AN) (a c lim:Nat) (wb wp:Bool):AN:=
 T1 (if (Sort.choosePivot ltN d a c).2= .decreasing then Sort.reverseRange d a c else d) a c lim wb wp (if (Sort.choosePivot ltN d a c).2= .decreasing then (c-1)-((Sort.choosePivot ltN d a c).1-a) else (Sort.choosePivot ltN d a c).1) (if (Sort.choosePivot ltN d a c).2= .decreasing then .increasing else (Sort.choosePivot ltN d a c).2)
theorem pdq_eq (d:AN) (a c lim:Nat) (wb wp:Bool):Sort.pdq ltN d a c lim wb wp=if c-a<=12 then Sort.insertionSort ltN d a c else if lim=0 then Sort.heapSort ltN d a c else T2 (if (!wb)=true then Sort.breakPatterns d a c else d) a c (if (!wb)=true then lim-1 else lim) wb wp:=by
 rw [Sort.pdq];rfl
theorem zqE {d:AN}{a c p:Nat}(hac:a<c):a<=(Sort.partition ltN d a c p).1/\(Sort.partition ltN d a c p).1<c:=by
 unfold Sort.partition;dsimp only;have h1:=zgv (p:=fun x=>ltN x (Sort.swp d a p)[a]!) (d:=Sort.swp d a p) (j:=c-1) (i:=a+1) (by omega);have h2:=zdX (p:=fun x=> !ltN x (Sort.swp d a p)[a]!) (d:=Sort.swp d a p) (i:=Sort.scanUp (fun x=>ltN x (Sort.swp d a p)[a]!) (Sort.swp d a p) (c-1) (a+1)) (j:=c-1) h1.2
 split
 ·dsimp only;omega
 ·rename_i h3
  dsimp only;have:=zlR (a:=a) _ (Sort.scanUp (fun x=>ltN x (Sort.swp d a p)[a]!) (Sort.swp d a p) (c-1) (a+1)+1) (Sort.scanDown (fun x=> !ltN x (Sort.swp d a p)[a]!) (Sort.swp d a p) (Sort.scanUp (fun x=>ltN x (Sort.swp d a p)[a]!) (Sort.swp d a p) (c-1) (a+1)) (c-1)-1) (Sort.swp (Sort.swp d a p) (Sort.scanUp (fun x=>ltN x (Sort.swp d a p)[a]!) (Sort.swp d a p) (c-1) (a+1)) (Sort.scanDown (fun x=> !ltN x (Sort.swp d a p)[a]!) (Sort.swp d a p) (Sort.scanUp (fun x=>ltN x (Sort.swp d a p)[a]!) (Sort.swp d a p) (c-1) (a+1)) (c-1))) (Nat.le_refl _) (by omega) (by omega);omega
theorem znE {d:AN}{a c p:Nat}:(Sort.partition ltN d a c p).2.2.size=d.size:=by
 unfold Sort.partition;dsimp only
 split
 ·dsimp only;rw [swp_size,swp_size]
 ·dsimp only;rw [swp_size,zi8 _ _ _ _ (Nat.le_refl _),swp_size,swp_size]
theorem zkY {d:AN}{a c p:Nat}:(Sort.partitionEqual ltN d a c p).2.size=d.size:=by
 unfold Sort.partitionEqual;rw [zlS _ _ _ _ (Nat.le_refl _),swp_size]
section
variable {Mm:Blk->Mem}{b n cap:Nat}{ex:Bool}{r:List (List V)}
theorem zw8 (h:Pl Mm b){d:AN}(hd:d.size=n){a c p lim:Nat}{wb wp:Bool}(hac:a+12<c) (hc:c<=n) (hp:a<=p/\p<c) (hn:n<100000000000000000)
  (ih: ∀(Mm':Blk->Mem) (d':AN) (a' c':Nat),Pl Mm' b->d'.size=n->a'<=c'->c'<=n->c'-a'<c-a->C S zy [sv b n cap ex,.int .i64 (a':Nat),.int .i64 (c':Nat),.int .i64 (lim:Nat)] (at_ Mm' r d') (fun v m'=>v= .tup []/\ ∃g,m'=at_ Mm' r (Sort.pdq ltN d' a' c' lim true true)++g/\(Sort.pdq ltN d' a' c' lim true true).size=n))
  {fr:Frame}(F:Has fr [(0,sv b n cap ex),(1,.int .i64 (a:Nat)),(2,.int .i64 (c:Nat)),(3,.int .i64 (lim:Nat)),(8,.bool wb),(9,.bool wp),(10,.int .i64 ((c-a:Nat):Nat)),(11,.int .i64 (p:Nat))]){Q:zar->Frame->Mem->Prop}
  (hQ: ∀e fr' d2 a2 c2 wb2 wp2 g,(e= .normal\/e= .exit 1)->Has fr' [(0,sv b n cap ex),(1,.int .i64 (a2:Nat)),(2,.int .i64 (c2:Nat)),(3,.int .i64 (lim:Nat)),(8,.bool wb2),(9,.bool wp2)]->d2.size=n->a2<=c2->c2<=n->c2-a2<c-a->Sort.pdq ltN d2 a2 c2 lim wb2 wp2=T0 d a c lim wb wp p->Q e fr' (at_ Mm r d2++g)):
  W S zan fr (at_ Mm r d) Q:=by
 have i1:=zad;have i3:= @zei b n cap ex;have hg0: ∀X,(Mm X)[b]? =some X:=fun X=>by have:=h.get X [];simpa using this
 have h':=zU h;have hQ':=zU hQ;have ih':=zU ih;clear h hQ ih;have lp:p<n:=by omega
 have lp':p<d.size:=by omega
 have pe:=zU (@zpu a c _ (a+1) (c-1) (Sort.swp d a p) (Nat.le_refl _) (by omega) (by omega) (by omega));have pp:=zU (@zqE d a c p (by omega));have pz:=zU (@znE d a c p);have pez:=zU (@zkY d a c p);have rest: ∀(fr':Frame),Has fr' [(0,sv b n cap ex),(1,.int .i64 (a:Nat)),(2,.int .i64 (c:Nat)),(3,.int .i64 (lim:Nat)),(8,.bool wb),(9,.bool wp),(10,.int .i64 ((c-a:Nat):Nat)),(11,.int .i64 (p:Nat))]->True:=fun _ _=>trivial
 clear rest;obtain ⟨mid,em⟩: ∃mid,(Sort.partition ltN d a c p).1=mid:=⟨_,rfl⟩
 obtain ⟨ap,eap⟩: ∃ap,(Sort.partition ltN d a c p).2.1=ap:=⟨_,rfl⟩
 obtain ⟨d4,ed4⟩: ∃d4,(Sort.partition ltN d a c p).2.2=d4:=⟨_,rfl⟩
 have epart:Sort.partition ltN d a c p=(mid,ap,d4):=by rw [<-em,<-eap,<-ed4]
 have hm:a<=mid/\mid<c:=by rw [<-em];exact pp.down
 have hd4:d4.size=n:=by rw [<-ed4,pz.down];exact hd
 have t0p:¬ (decide (a>0)&& !ltN d[a-1]! d[p]!)=true->PLift (T0 d a c lim wb wp p=if mid-a<c-mid then Sort.pdq ltN (Sort.pdq ltN d4 a mid lim true true) (mid+1) c lim (decide (mid-a ≥ (c-a)/8)) ap else Sort.pdq ltN (Sort.pdq ltN d4 (mid+1) c lim true true) a mid lim (decide (c-mid ≥ (c-a)/8)) ap):=fun hh=>⟨by
  unfold T0;rw [if_neg hh,epart];dsimp only;rw [if_pos hm]⟩
 have t0p':=zU t0p;have em':=zU em;have eap':=zU eap;have ed4':=zU ed4;clear t0p em eap ed4 epart pp pz;have w1:IntKind.i64.wrap ((mid:Int)-(a:Int))=((mid-a:Nat):Int):=by rw [wrap_i64]<;>omega
 have w2:IntKind.i64.wrap ((c:Int)-(mid:Int))=((c-mid:Nat):Int):=by rw [wrap_i64]<;>omega
 have w3:IntKind.i64.wrap ((mid:Int)+1)=((mid+1:Nat):Int):=by rw [wrap_i64]<;>omega
 have w4:((c-a:Nat):Int).tdiv 8=(((c-a)/8:Nat):Int):=zj0 (b:=8);have w5:IntKind.i64.wrap (((c-a)/8:Nat):Int)=(((c-a)/8:Nat):Int):=by rw [wrap_i64]<;>omega
 have c8:((8:Int)=0)=False:=by decide
 have db1:decide ((((c-a)/8:Nat):Int)<=((mid-a:Nat):Int))=decide (mid-a ≥ (c-a)/8):=decide_eq_decide.2 (by omega);have db2:decide ((((c-a)/8:Nat):Int)<=((c-mid:Nat):Int))=decide (c-mid ≥ (c-a)/8):=decide_eq_decide.2 (by omega)
 by_cases ha0:0<a
 case neg=>
  have c1:((0:Int)<(a:Int))=False:=eq_false (by omega);have t:=t0p'.down (by simp [ha0]);clear t0p';refine into ?_;refine (zif h'.down hd (by omega) hc hp hn).mono ?_;rintro _ _ ⟨rfl,rfl⟩;rw [em'.down,eap'.down,ed4'.down]
  by_cases hlr:mid-a<c-mid
  ·have c2:(((mid-a:Nat):Int)<((c-mid:Nat):Int))=True:=eq_true (by omega)
   have t':=zU (t.down.trans (if_pos hlr));clear t;refine am ?_;refine (ih'.down Mm d4 a mid h'.down hd4 hm.1 (by omega) (by omega)).mono ?_;rintro _ _ ⟨rfl,g,rfl,hz⟩;have hz':=zU hz;clear hz;refine am ?_;exact hQ'.down .normal _ (Sort.pdq ltN d4 a mid lim true true) (mid+1) c (decide (mid-a ≥ (c-a)/8)) ap g (.inl rfl) zh hz'.down (by omega) hc (by omega) t'.down.symm
  ·have c2:(((mid-a:Nat):Int)<((c-mid:Nat):Int))=False:=eq_false (by omega)
   have t':=zU (t.down.trans (if_neg hlr));clear t;refine am ?_;refine (ih'.down Mm d4 (mid+1) c h'.down hd4 (by omega) hc (by omega)).mono ?_;rintro _ _ ⟨rfl,g,rfl,hz⟩;have hz':=zU hz;clear hz;refine am ?_;exact hQ'.down .normal _ (Sort.pdq ltN d4 (mid+1) c lim true true) a mid (decide (c-mid ≥ (c-a)/8)) ap g (.inl rfl) zh hz'.down hm.1 (by omega) (by omega) t'.down.symm
 have c1:((0:Int)<(a:Int))=True:=eq_true (by omega);have w6:IntKind.i64.wrap ((a:Int)-1)=((a-1:Nat):Int):=by rw [wrap_i64]<;>omega
 have la:a-1<n:=by omega
 have la':a-1<d.size:=by omega
 refine into ?_;refine zN.mono ?_;rintro _ _ ⟨rfl,rfl⟩;cases hl:ltN d[a-1]! d[p]! with
 |true=>
  have t:=t0p'.down (by rw [hl];simp);clear t0p';refine am ?_;refine (zif h'.down hd (by omega) hc hp hn).mono ?_;rintro _ _ ⟨rfl,rfl⟩;rw [em'.down,eap'.down,ed4'.down]
  by_cases hlr:mid-a<c-mid
  ·have c2:(((mid-a:Nat):Int)<((c-mid:Nat):Int))=True:=eq_true (by omega)
   have t':=zU (t.down.trans (if_pos hlr));clear t;refine am ?_;refine (ih'.down Mm d4 a mid h'.down hd4 hm.1 (by omega) (by omega)).mono ?_;rintro _ _ ⟨rfl,g,rfl,hz⟩;have hz':=zU hz;clear hz;refine am ?_;exact hQ'.down .normal _ (Sort.pdq ltN d4 a mid lim true true) (mid+1) c (decide (mid-a ≥ (c-a)/8)) ap g (.inl rfl) zh hz'.down (by omega) hc (by omega) t'.down.symm
  ·have c2:(((mid-a:Nat):Int)<((c-mid:Nat):Int))=False:=eq_false (by omega)
   have t':=zU (t.down.trans (if_neg hlr));clear t;refine am ?_;refine (ih'.down Mm d4 (mid+1) c h'.down hd4 (by omega) hc (by omega)).mono ?_;rintro _ _ ⟨rfl,g,rfl,hz⟩;have hz':=zU hz;clear hz;refine am ?_;exact hQ'.down .normal _ (Sort.pdq ltN d4 (mid+1) c lim true true) a mid (decide (c-mid ≥ (c-a)/8)) ap g (.inl rfl) zh hz'.down hm.1 (by omega) (by omega) t'.down.symm
 |false=>
  clear t0p';have hm2:a<(Sort.partitionEqual ltN d a c p).1/\(Sort.partitionEqual ltN d a c p).1<=c:=pe.down;have t:PLift (T0 d a c lim wb wp p=Sort.pdq ltN (Sort.partitionEqual ltN d a c p).2 (Sort.partitionEqual ltN d a c p).1 c lim wb wp):=⟨by
   unfold T0;rw [if_pos (by rw [hl];simp [ha0])];dsimp only;rw [if_pos hm2]⟩
  refine am ?_;refine (zr2 h'.down hd (by omega) hc hp hn).mono ?_;rintro _ _ ⟨rfl,rfl⟩;have hm3:=zU hm2;clear hm2;refine am ?_;have key:=fun fr'=>hQ'.down (.exit 1) fr' (Sort.partitionEqual ltN d a c p).2 (Sort.partitionEqual ltN d a c p).1 c wb wp [] (.inr rfl)
  simp only [List.append_nil] at key;exact key _ zh (by rw [pez.down];exact hd) (by have:=hm3.down;omega) hc (by have:=hm3.down;omega) t.down.symm
end
end Go.AM.G
namespace Go.AM.G
open Go Go.AM
theorem znF {a:Nat}: ∀(j:Nat) (d:AN),(Sort.insInner ltN a j d).size=d.size
 |0,_=>rfl
 |j+1,d=>by
  rw [Sort.insInner]
  split
  ·rw [znF,swp_size]
  ·rfl
theorem znG {a c:Nat}: ∀(k i:Nat) (d:AN),c-i<=k->(Sort.insOuter ltN a c i d).size=d.size
 |k,i,d,hk=>by
  rw [Sort.insOuter]
  split
  ·cases k with
   |zero=>omega
   |succ k=>rw [znG k _ _ (by omega),znF]
  ·rfl
theorem zw9 {a c:Nat}{d:AN}:(Sort.insertionSort ltN d a c).size=d.size:=znG _ _ _ (Nat.le_refl _)
theorem zvq {a c:Nat}{d:AN}:(Sort.heapSort ltN d a c).size=d.size:=by rw [Sort.heapSort,zr0,znB]
theorem zr3 {a l M i0:Nat}: ∀(k:Nat) (st:UInt64×AN),(ztc a l M i0 k st).size=st.2.size
 |0,_=>rfl
 |k+1,st=>by rw [ztc,zr3];exact swp_size _ _ _
theorem zte {a c:Nat}{d:AN}:(Sort.breakPatterns d a c).size=d.size:=by
 by_cases h:8<=c-a
 ·rw [zr1 h,zr3]
 ·rw [zlQ (by omega)]
theorem zqF {a c:Nat}{d:AN}:(Sort.reverseRange d a c).size=d.size:=rev_size
theorem zxU {a c:Nat}{d:AN}:(Sort.partialInsertionSort ltN d a c).1.size=d.size:=zpt
theorem zvr {d:AN}{a c:Nat}(h:a<c):a<=(Sort.choosePivot ltN d a c).1/\(Sort.choosePivot ltN d a c).1<c:=Sort.choosePivot_holds ltN d a c h
def Ih (b n cap:Nat) (ex:Bool) (r:List (List V)) (lim k:Nat):Prop:=
 ∀(Mm':Blk->Mem) (d':AN) (a' c':Nat),Pl Mm' b->d'.size=n->a'<=c'->c'<=n->c'-a'<k->C S zy [sv b n cap ex,.int .i64 (a':Nat),.int .i64 (c':Nat),.int .i64 (lim:Nat)] (at_ Mm' r d') (fun v m'=>v= .tup []/\ ∃g,m'=at_ Mm' r (Sort.pdq ltN d' a' c' lim true true)++g/\(Sort.pdq ltN d' a' c' lim true true).size=n)
section
variable {Mm:Blk->Mem}{b n cap:Nat}{ex:Bool}{r:List (List V)}
theorem zxa (h:Pl Mm b){d:AN}(hd:d.size=n){a c p lim:Nat}{wb wp:Bool}{x:Sort.Hint}(hac:a+12<c) (hc:c<=n) (hp:a<=p/\p<c) (hn:n<100000000000000000) (ih:Ih b n cap ex r lim (c-a))
  {fr:Frame}(F:Has fr [(0,sv b n cap ex),(1,.int .i64 (a:Nat)),(2,.int .i64 (c:Nat)),(3,.int .i64 (lim:Nat)),(8,.bool wb),(9,.bool wp),(10,.int .i64 ((c-a:Nat):Nat)),(11,.int .i64 (p:Nat)),(12,.int .i64 (hcode x))]){Q:zar->Frame->Mem->Prop}
  (hQ: ∀e fr' d2 a2 c2 wb2 wp2 g,(e= .normal\/e= .exit 1)->Has fr' [(0,sv b n cap ex),(1,.int .i64 (a2:Nat)),(2,.int .i64 (c2:Nat)),(3,.int .i64 (lim:Nat)),(8,.bool wb2),(9,.bool wp2)]->d2.size=n->a2<=c2->c2<=n->c2-a2<c-a->Sort.pdq ltN d2 a2 c2 lim wb2 wp2=T1 d a c lim wb wp p x->Q e fr' (at_ Mm r d2++g))
  (hR: ∀fr' d2,d2=T1 d a c lim wb wp p x->d2.size=n->Q .ret fr' (at_ Mm r d2)):
  W S zbk fr (at_ Mm r d) Q:=by
 have h':=zU h;have hQ':=zU hQ;have hR':=zU hR;have ih':=zU ih;clear h hQ hR ih
 by_cases hgo:(wb&&wp&&decide (x= .increasing))=true
 ·obtain ⟨⟨rfl,rfl⟩,rfl⟩:(wb=true/\wp=true)/\x= .increasing:=by simpa using hgo
  have hx:hcode .increasing=1:=rfl;have hpz:=zU (@zxU a c d);have t1:PLift (T1 d a c lim true true p .increasing=if (Sort.partialInsertionSort ltN d a c).2=true then (Sort.partialInsertionSort ltN d a c).1 else T0 (Sort.partialInsertionSort ltN d a c).1 a c lim true true p):=⟨rfl⟩
  clear hgo;refine into ?_;refine (zqD h'.down hd (by omega) hc hn).mono ?_;rintro _ _ ⟨rfl,rfl⟩;cases hpi:(Sort.partialInsertionSort ltN d a c).2 with
  |true=>
   refine am ?_;refine hR'.down _ _ ?_ (by rw [hpz.down];exact hd);rw [t1.down,hpi];rfl
  |false=>
   refine am ?_;refine zw8 (cap:=cap) (ex:=ex) (a:=a) (c:=c) (p:=p) (lim:=lim) (wb:=true) (wp:=true) h'.down (by rw [hpz.down];exact hd) hac hc hp hn ih'.down zh ?_;intro e fr' d2 a2 c2 wb2 wp2 g he F' hd2 h1 h2 h3 h4;refine hQ'.down e fr' d2 a2 c2 wb2 wp2 g he F' hd2 h1 h2 h3 ?_;rw [h4,t1.down,hpi];rfl
 have t1:PLift (T1 d a c lim wb wp p x=T0 d a c lim wb wp p):=⟨by
  unfold T1;rw [if_neg hgo];rfl⟩
 have fin: ∀{fr':Frame},Has fr' [(0,sv b n cap ex),(1,.int .i64 (a:Nat)),(2,.int .i64 (c:Nat)),(3,.int .i64 (lim:Nat)),(8,.bool wb),(9,.bool wp),(10,.int .i64 ((c-a:Nat):Nat)),(11,.int .i64 (p:Nat))]->W S zan fr' (at_ Mm r d) Q:=by
  intro fr' F';refine zw8 (cap:=cap) (ex:=ex) (a:=a) (c:=c) (p:=p) (lim:=lim) (wb:=wb) (wp:=wp) h'.down hd hac hc hp hn ih'.down F' ?_;intro e fr' d2 a2 c2 wb2 wp2 g he F' hd2 h1 h2 h3 h4;refine hQ'.down e fr' d2 a2 c2 wb2 wp2 g he F' hd2 h1 h2 h3 ?_;rw [h4,t1.down]
 have fin':=PLift.up @fin;clear fin;cases wb with
 |false=>
  clear hgo;refine into ?_;exact fin'.down zh
 |true=>
  cases wp with
  |false=>
   clear hgo;refine into ?_;exact fin'.down zh
  |true=>
   have hx:(hcode x=1)=False:=eq_false (by
    intro e;apply hgo;cases x with
    |increasing=>rfl
    |unknown=>cases e
    |decreasing=>cases e)
   clear hgo;refine into ?_;exact fin'.down zh
theorem zxb (h:Pl Mm b){d:AN}(hd:d.size=n){a c lim:Nat}{wb wp:Bool}(hac:a+12<c) (hc:c<=n) (hn:n<100000000000000000) (ih:Ih b n cap ex r lim (c-a))
  {fr:Frame}(F:Has fr [(0,sv b n cap ex),(1,.int .i64 (a:Nat)),(2,.int .i64 (c:Nat)),(3,.int .i64 (lim:Nat)),(8,.bool wb),(9,.bool wp),(10,.int .i64 ((c-a:Nat):Nat))]){Q:zar->Frame->Mem->Prop}
  (hQ: ∀e fr' d2 a2 c2 wb2 wp2 g,(e= .normal\/e= .exit 1)->Has fr' [(0,sv b n cap ex),(1,.int .i64 (a2:Nat)),(2,.int .i64 (c2:Nat)),(3,.int .i64 (lim:Nat)),(8,.bool wb2),(9,.bool wp2)]->d2.size=n->a2<=c2->c2<=n->c2-a2<c-a->Sort.pdq ltN d2 a2 c2 lim wb2 wp2=T2 d a c lim wb wp->Q e fr' (at_ Mm r d2++g))
  (hR: ∀fr' d2 g,d2=T2 d a c lim wb wp->d2.size=n->Q .ret fr' (at_ Mm r d2++g)):
  W S zbl fr (at_ Mm r d) Q:=by
 have h':=zU h;have hQ':=zU hQ;have hR':=zU hR;have ih':=zU ih;have cat:=zvr (d:=d) (a:=a) (c:=c) (by omega);have t2:PLift (T2 d a c lim wb wp=T1 (if (Sort.choosePivot ltN d a c).2= .decreasing then Sort.reverseRange d a c else d) a c lim wb wp (if (Sort.choosePivot ltN d a c).2= .decreasing then (c-1)-((Sort.choosePivot ltN d a c).1-a) else (Sort.choosePivot ltN d a c).1) (if (Sort.choosePivot ltN d a c).2= .decreasing then .increasing else (Sort.choosePivot ltN d a c).2)):=⟨rfl⟩
 clear h hQ hR ih;refine into ?_;refine (choose_spec h'.down hd (by omega) hc hn).mono ?_;rintro _ _ ⟨rfl,g,rfl⟩
 generalize hch:Sort.choosePivot ltN d a c=ch at cat t2
 obtain ⟨p,x⟩:=ch;have cat:a<=p/\p<c:=cat;have t2:PLift (T2 d a c lim wb wp=T1 (if x= .decreasing then Sort.reverseRange d a c else d) a c lim wb wp (if x= .decreasing then (c-1)-(p-a) else p) (if x= .decreasing then .increasing else x)):=t2;clear hch;have hrz:=zU (@zqF a c d)
 by_cases hx:x= .decreasing
 ·subst hx
  have t3:PLift (T2 d a c lim wb wp=T1 (Sort.reverseRange d a c) a c lim wb wp ((c-1)-(p-a)) .increasing):=t2;have hx:hcode .decreasing=2:=rfl;have hx1:hcode .increasing=1:=rfl;have w1:IntKind.i64.wrap ((c:Int)-1)=((c-1:Nat):Int):=by rw [wrap_i64]<;>omega
  have w2:IntKind.i64.wrap ((p:Int)-(a:Int))=((p-a:Nat):Int):=by rw [wrap_i64]<;>omega
  have w3:IntKind.i64.wrap (((c-1:Nat):Int)-((p-a:Nat):Int))=((c-1-(p-a):Nat):Int):=by rw [wrap_i64]<;>omega
  clear t2;refine am ?_;refine (zqB (Mm:=fun X=>Mm X++g) (h'.down.app g) hd (by omega) hc hn).mono ?_;rintro _ _ ⟨rfl,rfl⟩;refine am ?_;refine zxa (Mm:=fun X=>Mm X++g) (cap:=cap) (ex:=ex) (d:=Sort.reverseRange d a c) (a:=a) (c:=c) (p:=c-1-(p-a)) (lim:=lim) (wb:=wb) (wp:=wp) (x:= .increasing) (h'.down.app g) (by rw [hrz.down];exact hd) hac hc (by omega) hn ih'.down zh ?_ ?_
  ·intro e fr' d2 a2 c2 wb2 wp2 g2 he F' hd2 h1 h2 h3 h4
   have:=hQ'.down e fr' d2 a2 c2 wb2 wp2 (g++g2) he F' hd2 h1 h2 h3 (by rw [h4,t3.down]);rw [<-List.append_assoc] at this;exact this
  ·intro fr' d2 h1 h2
   exact hR'.down fr' d2 g (by rw [h1,t3.down]) h2
 ·have t3:PLift (T2 d a c lim wb wp=T1 d a c lim wb wp p x):=⟨by rw [t2.down,if_neg hx,if_neg hx,if_neg hx]⟩
  have hx2:(hcode x=2)=False:=eq_false (by
   intro e;cases x with
   |decreasing=>exact hx rfl
   |unknown=>cases e
   |increasing=>cases e)
  clear t2 hx;refine am ?_;refine zxa (Mm:=fun X=>Mm X++g) (cap:=cap) (ex:=ex) (d:=d) (a:=a) (c:=c) (p:=p) (lim:=lim) (wb:=wb) (wp:=wp) (x:=x) (h'.down.app g) hd hac hc cat hn ih'.down zh ?_ ?_
  ·intro e fr' d2 a2 c2 wb2 wp2 g2 he F' hd2 h1 h2 h3 h4
   have:=hQ'.down e fr' d2 a2 c2 wb2 wp2 (g++g2) he F' hd2 h1 h2 h3 (by rw [h4,t3.down]);rw [<-List.append_assoc] at this;exact this
  ·intro fr' d2 h1 h2
   exact hR'.down fr' d2 g (by rw [h1,t3.down]) h2
end
end Go.AM.G
namespace Go.AM.G
open Go Go.AM
section
variable {b n cap:Nat}{ex:Bool}{r:List (List V)}
theorem zr4 (hn:n<100000000000000000): ∀(k:Nat) (Mm:Blk->Mem) (d:AN) (a c lim:Nat),Pl Mm b->d.size=n->a<=c->c<=n->c-a<=k->lim<1000->
  C S zy [sv b n cap ex,.int .i64 (a:Nat),.int .i64 (c:Nat),.int .i64 (lim:Nat)] (at_ Mm r d) (fun v m'=>v= .tup []/\ ∃g,m'=at_ Mm r (Sort.pdq ltN d a c lim true true)++g/\(Sort.pdq ltN d a c lim true true).size=n)
 |k,Mm,d,a,c,lim,h,hd,hac,hc,hk,hlim=>by
  have h':=zU h;have ihk:PLift (∀lim',lim'<1000->Ih b n cap ex r lim' k):=⟨fun lim' hl Mm' d' a' c' g1 g2 g3 g4 g5=>by
   cases k with
   |zero=>omega
   |succ k=>exact zr4 hn k Mm' d' a' c' lim' g1 g2 g3 g4 (by omega) hl⟩
  clear h;refine fn rfl ?_
  let I:=fun (q:Nat) (fr:Frame) (m':Mem)=> ∃(a' c' lim':Nat) (wb wp:Bool) (d':AN) (g:Mem),q=c'-a'/\a'<=c'/\c'<=n/\c'-a'<=k/\lim'<1000/\d'.size=n/\Sort.pdq ltN d' a' c' lim' wb wp=Sort.pdq ltN d a c lim true true/\Has fr [(0,sv b n cap ex),(1,.int .i64 (a':Nat)),(2,.int .i64 (c':Nat)),(3,.int .i64 (lim':Nat)),(8,.bool wb),(9,.bool wp)]/\m'=at_ Mm r d'++g
  refine zW I ?_ (c-a) ⟨a,c,lim,true,true,d,[],rfl,hac,hc,hk,hlim,hd,rfl,zh,by simp⟩;rintro q fr _ ⟨a',c',lim',wb,wp,d',g,rfl,hac',hc',hk',hlim',hd',hq,F,rfl⟩;have hq':=zU hq;clear hq;have eq:=zU (pdq_eq d' a' c' lim' wb wp);have w0:IntKind.i64.wrap ((c':Int)-(a':Int))=((c'-a':Nat):Int):=by rw [wrap_i64]<;>omega
  have iz:=zU (@zw9 a' c' d');have hz:=zU (@zvq a' c' d');have bz:=zU (@zte a' c' d')
  by_cases h12:c'-a'<=12
  ·have c1:(((c'-a':Nat):Int)<=12)=True:=eq_true (by omega)
   have t:=zU (hq'.down.symm.trans (eq.down.trans (if_pos h12)));clear eq;refine into ?_;refine (zw3 (Mm:=fun X=>Mm X++g) (h'.down.app g) hd' hac' hc' hn).mono ?_;rintro _ _ ⟨rfl,rfl⟩;refine am ?_;exact ⟨g,by rw [t.down],by rw [t.down,iz.down];exact hd'⟩
  have c1:(((c'-a':Nat):Int)<=12)=False:=eq_false (by omega);have eq2:=zU (eq.down.trans (if_neg h12));clear eq
  by_cases hl0:lim'=0
  ·subst hl0
   have t:=zU (hq'.down.symm.trans (eq2.down.trans (if_pos rfl)));clear eq2;refine into ?_;refine (zvk (Mm:=fun X=>Mm X++g) (h'.down.app g) hd' (by omega) hc' hn).mono ?_;rintro _ _ ⟨rfl,rfl⟩;refine am ?_;exact ⟨g,by rw [t.down],by rw [t.down,hz.down];exact hd'⟩
  have c2:((lim':Int)=0)=False:=eq_false (by omega);have t:=zU (hq'.down.symm.trans (eq2.down.trans (if_neg hl0)));have hl1:0<lim':=by omega
  clear eq2 hl0;cases wb with
  |true=>
   have t':PLift (Sort.pdq ltN d a c lim true true=T2 d' a' c' lim' true wp):=t;clear t;refine into ?_;refine zxb (Mm:=fun X=>Mm X++g) (cap:=cap) (ex:=ex) (d:=d') (a:=a') (c:=c') (lim:=lim') (wb:=true) (wp:=wp) (h'.down.app g) hd' (by omega) hc' hn (fun Mm' d2 a2 c2 g1 g2 g3 g4 g5=>ihk.down lim' hlim' Mm' d2 a2 c2 g1 g2 g3 g4 (by omega)) zh ?_ ?_
   ·intro e fr' d2 a2 c2 wb2 wp2 g2 he F' hd2 h1 h2 h3 h4
    have fin: ∃q,q<c'-a'/\I q fr' (at_ Mm r d2++(g++g2)):=⟨c2-a2,h3,a2,c2,lim',wb2,wp2,d2,g++g2,rfl,h1,h2,by omega,hlim',hd2,by rw [h4,t'.down],F',rfl⟩
    have fin':=zU fin;clear fin;rcases he with rfl|rfl
    ·refine am ?_
     exact fin'.down
    ·refine am ?_
     exact fin'.down
   ·intro fr' d2 g2 h1 h2
    refine am ?_;exact ⟨g++g2,by rw [t'.down,<-h1],by rw [t'.down,<-h1];exact h2⟩
  |false=>
   have t':PLift (Sort.pdq ltN d a c lim true true=T2 (Sort.breakPatterns d' a' c') a' c' (lim'-1) false wp):=t;have w1:IntKind.i64.wrap ((lim':Int)-1)=((lim'-1:Nat):Int):=by rw [wrap_i64]<;>omega
   clear t;refine into ?_;refine (ztd (Mm:=fun X=>Mm X++g) (h'.down.app g) hd' (by omega) hc' hn).mono ?_;rintro _ _ ⟨rfl,g0,rfl⟩;refine am ?_;have e0:Mm (.cells true (zgZ (Sort.breakPatterns d' a' c') r))++(g++g0)=(fun X=>Mm X++(g++g0)) (.cells true (zgZ (Sort.breakPatterns d' a' c') r)):=rfl;refine zxb (Mm:=fun X=>Mm X++(g++g0)) (cap:=cap) (ex:=ex) (d:=Sort.breakPatterns d' a' c') (a:=a') (c:=c') (lim:=lim'-1) (wb:=false) (wp:=wp) (h'.down.app (g++g0)) (by rw [bz.down];exact hd') (by omega) hc' hn (fun Mm' d2 a2 c2 g1 g2 g3 g4 g5=>ihk.down (lim'-1) (by omega) Mm' d2 a2 c2 g1 g2 g3 g4 (by omega)) zh ?_ ?_
   ·intro e fr' d2 a2 c2 wb2 wp2 g2 he F' hd2 h1 h2 h3 h4
    have fin: ∃q,q<c'-a'/\I q fr' (at_ Mm r d2++(g++(g0++g2))):=⟨c2-a2,h3,a2,c2,lim'-1,wb2,wp2,d2,g++(g0++g2),rfl,h1,h2,by omega,by omega,hd2,by rw [h4,t'.down],F',rfl⟩
    have fin':=zU fin;clear fin;rcases he with rfl|rfl
    ·refine am ?_
     exact fin'.down
    ·refine am ?_
     exact fin'.down
   ·intro fr' d2 g2 h1 h2
    refine am ?_;exact ⟨g++(g0++g2),by rw [t'.down,<-h1],by rw [t'.down,<-h1];exact h2⟩
theorem zy7:Sort.SWO ltN where
 irrefl x:=by simp [ltN]
 trans x y z h1 h2:=by simp [ltN] at *; omega
 ntrans x y z h1 h2:=by simp [ltN] at *; omega
def zbR (l:List Nat):List Nat:=l.mergeSort fun x y=>decide (x<=y)
theorem zxV (d:AN) (lim:Nat):(Sort.pdq ltN d 0 d.size lim true true).toList=zbR d.toList:=by
 obtain ⟨h1,h2⟩:=Sort.pdq_sorts ltN zy7 d 0 d.size lim true true (Nat.zero_le _) (Nat.le_refl _) (Or.inl rfl);have:=Sort.sorted_unique_holds zy7 (fun x y h1 h2=>by simp [ltN] at h1 h2;omega) d _ h1 h2;rw [this];unfold zbR
 congr 1
 funext x y
 by_cases h:x<=y
 ·simp [ltN,h,Nat.not_lt.2 h]
 ·simp [ltN,h,Nat.lt_of_not_le h]
theorem ztf {Mm:Blk->Mem}(h:Pl Mm b){d:AN}(hd:d.size=n) (hn:n<100000000000000000):
  C S zax [sv b n cap ex] (at_ Mm r d) (fun v m'=>v= .tup []/\ ∃g,m'=at_ Mm r (zbR d.toList).toArray++g):=by
 have h':=zU h;clear h;have w1:IntKind.u64.wrap (n:Int)=(n:Int):=un' (by omega);have hb:Lib.bitLen n<1000:=by
  rw [bitLen_eq n (by omega)];exact Nat.lt_of_le_of_lt (znC (k:=57) (by omega)) (by decide)
 have si:=zU (zxV d (Lib.bitLen n));refine fn rfl ?_;refine (zhR (n:=n) (by omega)).mono ?_;rintro _ _ ⟨rfl,rfl⟩;refine am ?_;refine (zr4 (cap:=cap) (ex:=ex) hn n Mm d 0 n (Lib.bitLen n) h'.down hd (Nat.zero_le _) (Nat.le_refl _) (by omega) hb).mono ?_;rintro _ _ ⟨rfl,g,rfl,hz⟩;refine am ?_;refine ⟨g,?_⟩;have:=si.down;rw [hd] at this;rw [<-this]
end
end Go.AM.G
