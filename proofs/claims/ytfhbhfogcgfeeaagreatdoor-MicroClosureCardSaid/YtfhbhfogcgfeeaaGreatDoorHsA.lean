import Derived.Test.YtfhbhfogcgfeeaaGreatDoorHpA
import Derived.Sort.AssemblyPlain
import Derived.Sort.LotD5
set_option linter.unusedVariables false
set_option linter.unusedSimpArgs false
set_option maxRecDepth 100000
namespace Go.AM.G
open Go Go.AM
abbrev AN:=Array Nat
def ltN (x y:Nat):Bool:=decide (x<y)
def zgZ (d:AN) (r:List (List V)):List (List V):=(d.toList.map fun x=>[V.int .u64 (x:Nat)])++r
theorem zrY {d:AN}{r:List (List V)}{i:Nat}(h:i<d.size):(zgZ d r)[i]? =some [V.int .u64 (d[i]! :Nat)]:=by
 unfold zgZ;rw [List.getElem?_append_left (by simpa using h),List.getElem?_map,Array.getElem?_toList,Array.getElem?_eq_getElem h,getElem!_pos d i h];rfl
theorem zad (d:AN) (r:List (List V)) (i:Nat) (h:i<d.size):zhG (some (.cells true (zgZ d r))) none i 0=some (.int .u64 (d[i]! :Nat)):=by
 unfold zhG;dsimp only;rw [zrY h];rfl
theorem zbK (d:AN) (r:List (List V)) (i x:Nat) (h:i<d.size):zcW (some (.cells true (zgZ d r))) 1 i 0 (.int .u64 (x:Nat))=some (.cells true (zgZ (d.setIfInBounds i x) r)):=by
 unfold zcW;dsimp only;rw [zrY h];have e:(zgZ d r).set i (splice [V.int .u64 (d[i]! :Nat)] 0 (V.int .u64 (x:Nat)).cells)=zgZ (d.setIfInBounds i x) r:=by
  unfold zgZ;rw [List.set_append_left _ _ (by simpa using h)]
  congr 1
  rw [Array.toList_setIfInBounds,List.map_set];rfl
 rw [<-e];rfl
theorem zcw (d:AN) (i x:Nat):(d.setIfInBounds i x).size=d.size:=by simp
theorem swp_size (d:AN) (i j:Nat):(Sort.swp d i j).size=d.size:=by simp [Sort.swp]
theorem zei {b n cap:Nat}{ex:Bool}(i:Nat) (h:i<n):zaB 1 (.slice b 0 n cap ex 1) (.int .i64 (i:Nat))=some (.ptr b i 0):=by
 unfold zaB;simp [h]
structure Pl (Mm:Blk->Mem) (b:Nat):Prop where
 get: ∀X g,(Mm X++g)[b]? =some X
 set: ∀X Y g,(Mm X++g).set b Y=Mm Y++g
theorem Pl.app {Mm:Blk->Mem}{b:Nat}(h:Pl Mm b) (g:Mem):Pl (fun X=>Mm X++g) b:=⟨fun X g'=>by rw [List.append_assoc];exact h.get X _,fun X Y g'=>by rw [List.append_assoc,h.set,<-List.append_assoc]⟩
theorem Pl.of {m:Mem}{b:Nat}(h:b<m.length):Pl (fun X=>m.set b X) b:=⟨fun X g=>by rw [List.getElem?_append_left (by simpa using h)];simp [h],fun X Y g=>by rw [List.set_append_left _ _ (by simpa using h)];simp⟩
theorem zrZ {m:Mem}{x:Nat}:C S zau [.int .u64 (x:Nat)] m (fun r m'=>r= .bool false/\m'=m):=by
 have e:((x:Int)=(x:Int))=True:=eq_true rfl;refine fn rfl ?_;trivial
theorem zN {m:Mem}{x y:Nat}:C S zq [.int .u64 (x:Nat),.int .u64 (y:Nat)] m (fun r m'=>r= .bool (ltN x y)/\m'=m):=by
 refine fn rfl ?_;refine zrZ.mono ?_;rintro _ _ ⟨rfl,rfl⟩;refine am ?_;simp [ltN]
theorem zw2 {a j:Nat}{d:AN}(h:¬ a<j):Sort.insInner ltN a j d=d:=by
 cases j with
 |zero=>rfl
 |succ j=>rw [Sort.insInner];simp [h]
section
variable {Mm:Blk->Mem}{b n cap:Nat}{ex:Bool}{r:List (List V)}{g:Mem}
abbrev sv (b n cap:Nat) (ex:Bool):V:= .slice b 0 n cap ex 1
abbrev at_ (Mm:Blk->Mem) (r:List (List V)) (d:AN):Mem:=Mm (.cells true (zgZ d r))
theorem zw3 (h:Pl Mm b){d:AN}(hd:d.size=n){a c:Nat}(hac:a<=c) (hc:c<=n) (hn:n<100000000000000000):
  C S zX [sv b n cap ex,.int .i64 (a:Nat),.int .i64 (c:Nat)] (at_ Mm r d) (fun v m'=>v= .tup []/\m'=at_ Mm r (Sort.insertionSort ltN d a c)):=by
 have i1:=zad;have i2:=zbK;have i3:= @zei b n cap ex;have i4:=zcw;have hg0: ∀X,(Mm X)[b]? =some X:=fun X=>by have:=h.get X [];simpa using this
 have hs0: ∀X Y,(Mm X).set b Y=Mm Y:=fun X Y=>by have:=h.set X Y [];simpa using this
 have w0:IntKind.i64.wrap ((a:Int)+1)=((a+1:Nat):Int):=by rw [wrap_i64]<;>omega
 have h':=zU h;clear h;refine fn rfl ?_
 let I:=fun (k:Nat) (fr:Frame) (M:Mem)=> ∃(i:Nat) (d':AN),k=n+1-i/\d'.size=n/\i<=n+1/\Sort.insOuter ltN a c i d'=Sort.insertionSort ltN d a c/\Has fr [(0,sv b n cap ex),(1,.int .i64 (a:Nat)),(2,.int .i64 (c:Nat)),(6,.int .i64 (i:Nat))]/\M=at_ Mm r d'
 refine zW I ?_ (n+1-(a+1)) ⟨a+1,d,rfl,hd,by omega,rfl,zh,rfl⟩;rintro k fr _ ⟨i,d',rfl,hd',hi,hq,F,rfl⟩;have hq':=zU hq;clear hq
 by_cases hlt:i<c
 case neg=>
  have c1:((i:Int)<(c:Int))=False:=eq_false (by omega);refine into ?_;have:=hq'.down;rw [Sort.insOuter,if_neg hlt] at this;rw [this]
 have c1:((i:Int)<(c:Int))=True:=eq_true (by omega);refine into ?_
 let I2:=fun (j:Nat) (fr:Frame) (M:Mem)=> ∃d2:AN,d2.size=n/\j<=i/\Sort.insInner ltN a j d2=Sort.insInner ltN a i d'/\Has fr [(0,sv b n cap ex),(1,.int .i64 (a:Nat)),(2,.int .i64 (c:Nat)),(6,.int .i64 (i:Nat)),(7,.int .i64 (j:Nat))]/\M=at_ Mm r d2
 refine zW I2 ?_ i ⟨d',hd',Nat.le_refl _,rfl,zh,rfl⟩;rintro j fr _ ⟨d2,hd2,hj,hq2,F,rfl⟩;have hq2':=zU hq2;clear hq2;have w1:IntKind.i64.wrap ((i:Int)+1)=((i+1:Nat):Int):=by rw [wrap_i64]<;>omega
 have next:PLift (Sort.insOuter ltN a c (i+1) (Sort.insInner ltN a i d')=Sort.insertionSort ltN d a c):=⟨by
  have:=hq'.down;rw [Sort.insOuter,if_pos hlt] at this;exact this⟩
 by_cases haj:a<j
 case neg=>
  have c2:((a:Int)<(j:Int))=False:=eq_false (by omega);refine into ?_;refine ⟨n+1-(i+1),by omega,i+1,d2,rfl,hd2,by omega,?_,zh,rfl⟩;have:=next.down;rw [<-hq2'.down,zw2 haj] at this;exact this
 obtain ⟨j,rfl⟩: ∃j',j=j'+1:=⟨j-1,by omega⟩
 have c2:((a:Int)<((j+1:Nat):Int))=True:=eq_true (by omega);have w2:IntKind.i64.wrap (((j+1:Nat):Int)-1)=(j:Int):=by rw [wrap_i64]<;>omega
 have l1:j+1<n:=by omega
 have l2:j<n:=by omega
 have l3:j+1<d2.size:=by omega
 have l4:j<d2.size:=by omega
 have hu:PLift (Sort.insInner ltN a (j+1) d2=if ltN d2[j+1]! d2[j]! =true then Sort.insInner ltN a j (Sort.swp d2 (j+1) j) else d2):=⟨by
  rw [Sort.insInner];simp [haj]⟩
 refine into ?_;refine zN.mono ?_;rintro _ _ ⟨rfl,rfl⟩;cases hl:ltN d2[j+1]! d2[j]! with
 |false=>
  refine am ?_;refine ⟨n+1-(i+1),by omega,i+1,d2,rfl,hd2,by omega,?_,zh,rfl⟩;have:=next.down;rw [<-hq2'.down,hu.down,hl] at this;exact this
 |true=>
  refine am ?_;refine ⟨j,by omega,Sort.swp d2 (j+1) j,?_,by omega,?_,zh,rfl⟩
  ·rw [swp_size];exact hd2
  ·rw [<-hq2'.down,hu.down,hl];rfl
end
end Go.AM.G
namespace Go.AM.G
open Go Go.AM
theorem zvj {hi first root:Nat}{d:AN}(h:hi<=2*root+1):Sort.siftDown ltN hi first root d=d:=by
 rw [Sort.siftDown,dif_pos h]
theorem zw4 {hi first root:Nat}{d:AN}(h:2*root+2<hi) (hl:ltN d[first+(2*root+1)]! d[first+(2*root+1)+1]! =true):
  Sort.siftDown ltN hi first root d=if ltN d[first+root]! d[first+(2*root+2)]! =true then Sort.siftDown ltN hi first (2*root+2) (Sort.swp d (first+root) (first+(2*root+2))) else d:=by
 rw [Sort.siftDown,dif_neg (by omega)];have e:(2*root+1+1<hi)=True:=eq_true (by omega);simp only [e,hl,decide_true,Bool.and_self,if_true,h,dite_true];cases ltN d[first+root]! d[first+(2*root+2)]! <;>simp
theorem zw5 {hi first root:Nat}{d:AN}(h:2*root+1<hi) (hl:2*root+2<hi->ltN d[first+(2*root+1)]! d[first+(2*root+1)+1]! =false):
  Sort.siftDown ltN hi first root d=if ltN d[first+root]! d[first+(2*root+1)]! =true then Sort.siftDown ltN hi first (2*root+1) (Sort.swp d (first+root) (first+(2*root+1))) else d:=by
 rw [Sort.siftDown,dif_neg (by omega)];have e:(decide (2*root+1+1<hi)&&ltN d[first+(2*root+1)]! d[first+(2*root+1)+1]!)=false:=by
  by_cases h2:2*root+2<hi
  ·rw [hl h2];simp
  ·simp only [Bool.and_eq_false_imp,decide_eq_true_eq];intro h3;omega
 rw [if_neg (by rw [e];decide)];cases ltN d[first+root]! d[first+(2*root+1)]! <;>simp
section
variable {Mm:Blk->Mem}{b n cap:Nat}{ex:Bool}{r:List (List V)}
theorem zpr (h:Pl Mm b){d:AN}(hd:d.size=n){hi first root:Nat}(hf:first+hi<=n) (hr:root<=n) (hn:n<100000000000000000):
  C S zam [sv b n cap ex,.int .i64 (root:Nat),.int .i64 (hi:Nat),.int .i64 (first:Nat)] (at_ Mm r d) (fun v m'=>v= .tup []/\m'=at_ Mm r (Sort.siftDown ltN hi first root d)):=by
 have i1:=zad;have i2:=zbK;have i3:= @zei b n cap ex;have i4:=zcw;have hg0: ∀X,(Mm X)[b]? =some X:=fun X=>by have:=h.get X [];simpa using this
 have hs0: ∀X Y,(Mm X).set b Y=Mm Y:=fun X Y=>by have:=h.set X Y [];simpa using this
 have h':=zU h;clear h;refine fn rfl ?_
 let I:=fun (k:Nat) (fr:Frame) (M:Mem)=> ∃(i:Nat) (d':AN),k=n+1-i/\d'.size=n/\i<=n/\Sort.siftDown ltN hi first i d'=Sort.siftDown ltN hi first root d/\Has fr [(0,sv b n cap ex),(2,.int .i64 (hi:Nat)),(3,.int .i64 (first:Nat)),(8,.int .i64 (i:Nat))]/\M=at_ Mm r d'
 refine zW I ?_ (n+1-root) ⟨root,d,rfl,hd,hr,rfl,zh,rfl⟩;rintro k fr _ ⟨i,d',rfl,hd',hin,hq,F,rfl⟩;have hq':=zU hq;clear hq;have e1:IntKind.i64.wrap (2*(i:Int))=((2*i:Nat):Int):=by rw [wrap_i64]<;>omega
 have e2:IntKind.i64.wrap (((2*i:Nat):Int)+1)=((2*i+1:Nat):Int):=by rw [wrap_i64]<;>omega
 by_cases hlt:2*i+1<hi
 case neg=>
  have c1:((hi:Int)<=((2*i+1:Nat):Int))=True:=eq_true (by omega);refine into ?_;rw [<-hq'.down,zvj (by omega)]
 have c1:((hi:Int)<=((2*i+1:Nat):Int))=False:=eq_false (by omega);have e3:IntKind.i64.wrap (((2*i+1:Nat):Int)+1)=((2*i+2:Nat):Int):=by rw [wrap_i64]<;>omega
 have e4:IntKind.i64.wrap ((first:Int)+((2*i+1:Nat):Int))=((first+(2*i+1):Nat):Int):=by rw [wrap_i64]<;>omega
 have e5:IntKind.i64.wrap (((first+(2*i+1):Nat):Int)+1)=((first+(2*i+1)+1:Nat):Int):=by rw [wrap_i64]<;>omega
 have e6:IntKind.i64.wrap ((first:Int)+(i:Int))=((first+i:Nat):Int):=by rw [wrap_i64]<;>omega
 have e7:IntKind.i64.wrap ((first:Int)+((2*i+2:Nat):Int))=((first+(2*i+2):Nat):Int):=by rw [wrap_i64]<;>omega
 have l1:first+(2*i+1)<n:=by omega
 have l2:first+i<n:=by omega
 have l1':first+(2*i+1)<d'.size:=by omega
 have l2':first+i<d'.size:=by omega
 have one:(2*i+2<hi->ltN d'[first+(2*i+1)]! d'[first+(2*i+1)+1]! =false)->PLift (Sort.siftDown ltN hi first i d'=if ltN d'[first+i]! d'[first+(2*i+1)]! =true then Sort.siftDown ltN hi first (2*i+1) (Sort.swp d' (first+i) (first+(2*i+1))) else d'):=fun hl=>⟨zw5 hlt hl⟩
 have one':=zU one;clear one
 by_cases h2:2*i+2<hi
 case neg=>
  have c2:(((2*i+2:Nat):Int)<(hi:Int))=False:=eq_false (by omega);have hu:=one'.down (fun h=>absurd h h2);clear one';refine into ?_;refine into ?_;refine zN.mono ?_;rintro _ _ ⟨rfl,rfl⟩;cases hl:ltN d'[first+i]! d'[first+(2*i+1)]! with
  |false=>
   refine am ?_;rw [<-hq'.down,hu.down,hl];rfl
  |true=>
   refine am ?_;refine ⟨n+1-(2*i+1),by omega,2*i+1,Sort.swp d' (first+i) (first+(2*i+1)),rfl,by rw [swp_size];exact hd',by omega,?_,zh,rfl⟩;rw [<-hq'.down,hu.down,hl];rfl
 have c2:(((2*i+2:Nat):Int)<(hi:Int))=True:=eq_true (by omega);have l3:first+(2*i+1)+1<n:=by omega
 have l3':first+(2*i+1)+1<d'.size:=by omega
 have l4:first+(2*i+2)<n:=by omega
 have l4':first+(2*i+2)<d'.size:=by omega
 have two:ltN d'[first+(2*i+1)]! d'[first+(2*i+1)+1]! =true->PLift (Sort.siftDown ltN hi first i d'=if ltN d'[first+i]! d'[first+(2*i+2)]! =true then Sort.siftDown ltN hi first (2*i+2) (Sort.swp d' (first+i) (first+(2*i+2))) else d'):=fun hl=>⟨zw4 h2 hl⟩
 have two':=zU two;clear two;refine into ?_;refine zN.mono ?_;rintro _ _ ⟨rfl,rfl⟩;cases hl0:ltN d'[first+(2*i+1)]! d'[first+(2*i+1)+1]! with
 |false=>
  have hu:=one'.down (fun _=>hl0);clear one' two';refine am ?_;refine into ?_;refine zN.mono ?_;rintro _ _ ⟨rfl,rfl⟩;cases hl:ltN d'[first+i]! d'[first+(2*i+1)]! with
  |false=>
   refine am ?_;rw [<-hq'.down,hu.down,hl];rfl
  |true=>
   refine am ?_;refine ⟨n+1-(2*i+1),by omega,2*i+1,Sort.swp d' (first+i) (first+(2*i+1)),rfl,by rw [swp_size];exact hd',by omega,?_,zh,rfl⟩;rw [<-hq'.down,hu.down,hl];rfl
 |true=>
  have hu:=two'.down hl0;clear one' two';refine am ?_;refine into ?_;refine zN.mono ?_;rintro _ _ ⟨rfl,rfl⟩;cases hl:ltN d'[first+i]! d'[first+(2*i+2)]! with
  |false=>
   refine am ?_;rw [<-hq'.down,hu.down,hl];rfl
  |true=>
   refine am ?_;refine ⟨n+1-(2*i+2),by omega,2*i+2,Sort.swp d' (first+i) (first+(2*i+2)),rfl,by rw [swp_size];exact hd',by omega,?_,zh,rfl⟩;rw [<-hq'.down,hu.down,hl];rfl
end
end Go.AM.G
namespace Go.AM.G
open Go Go.AM
def dn (k:Nat):Int:=(k:Int)-1
theorem ziz {hi first root:Nat}{d:AN}:(Sort.siftDown ltN hi first root d).size=d.size:=by
 fun_induction Sort.siftDown ltN hi first root d<;>simp_all [Sort.swp]
theorem znB {hi first:Nat}: ∀(k:Nat) (d:AN),(Sort.heapBuild ltN hi first k d).size=d.size
 |0,_=>rfl
 |k+1,d=>by rw [Sort.heapBuild,znB k,ziz]
theorem zr0 {first:Nat}: ∀(k:Nat) (d:AN),(Sort.heapPop ltN first k d).size=d.size
 |0,_=>rfl
 |k+1,d=>by rw [Sort.heapPop,zr0 k,ziz,swp_size]
section
variable {Mm:Blk->Mem}{b n cap:Nat}{ex:Bool}{r:List (List V)}
theorem zvk (h:Pl Mm b){d:AN}(hd:d.size=n){a c:Nat}(hac:a<c) (hc:c<=n) (hn:n<100000000000000000):
  C S zbj [sv b n cap ex,.int .i64 (a:Nat),.int .i64 (c:Nat)] (at_ Mm r d) (fun v m'=>v= .tup []/\m'=at_ Mm r (Sort.heapSort ltN d a c)):=by
 have i1:=zad;have i2:=zbK;have i3:= @zei b n cap ex;have i4:=zcw;have hg0: ∀X,(Mm X)[b]? =some X:=fun X=>by have:=h.get X [];simpa using this
 have hs0: ∀X Y,(Mm X).set b Y=Mm Y:=fun X Y=>by have:=h.set X Y [];simpa using this
 have h':=zU h;clear h;obtain ⟨hi,ehi⟩: ∃hi,c-a=hi:=⟨_,rfl⟩
 have w0:IntKind.i64.wrap ((c:Int)-(a:Int))=(hi:Int):=by rw [wrap_i64]<;>omega
 have w1:IntKind.i64.wrap ((hi:Int)-1)=dn hi:=by unfold dn;rw [wrap_i64]<;>omega
 have w2:(dn hi).tdiv 2=(((hi-1)/2:Nat):Int):=by
  have e:dn hi=((hi-1:Nat):Int):=by unfold dn;omega
  rw [e];exact zj0 (b:=2)
 have w3:IntKind.i64.wrap (((hi-1)/2:Nat):Int)=(((hi-1)/2:Nat):Int):=by rw [wrap_i64]<;>omega
 have c0:((2:Int)=0)=False:=by decide
 refine fn rfl ?_;have q0:PLift (Sort.heapSort ltN d a c=Sort.heapPop ltN a hi (Sort.heapBuild ltN hi a ((hi-1)/2+1) d)):=⟨by rw [Sort.heapSort,ehi]⟩
 have d0: ∀k:Nat,dn (k+1)=(k:Int):=fun k=>by unfold dn;omega
 have c1: ∀k:Nat,((0:Int)<=(k:Int))=True:=fun k=>eq_true (by omega)
 have c2:((0:Int)<=dn 0)=False:=eq_false (by unfold dn;omega)
 let I:=fun (k:Nat) (fr:Frame) (M:Mem)=> ∃d':AN,d'.size=n/\k<=(hi-1)/2+1/\Sort.heapPop ltN a hi (Sort.heapBuild ltN hi a k d')=Sort.heapSort ltN d a c/\Has fr [(0,sv b n cap ex),(1,.int .i64 (a:Nat)),(2,.int .i64 (c:Nat)),(6,.int .i64 (a:Nat)),(7,.int .i64 0),(8,.int .i64 (hi:Nat)),(9,.int .i64 (dn k))]/\M=at_ Mm r d'
 refine zW I ?_ ((hi-1)/2+1) ⟨d,hd,Nat.le_refl _,q0.down.symm,zh,rfl⟩;rintro k fr _ ⟨d',hd',hk,hq,F,rfl⟩;have hq':=zU hq;clear hq;cases k with
 |zero=>
  refine into ?_
  let I2:=fun (k:Nat) (fr:Frame) (M:Mem)=> ∃d2:AN,d2.size=n/\k<=hi/\Sort.heapPop ltN a k d2=Sort.heapSort ltN d a c/\Has fr [(0,sv b n cap ex),(6,.int .i64 (a:Nat)),(7,.int .i64 0),(10,.int .i64 (dn k))]/\M=at_ Mm r d2
  refine zW I2 ?_ hi ⟨d',hd',Nat.le_refl _,hq'.down,zh,rfl⟩;rintro k fr _ ⟨d2,hd2,hk2,hq2,F,rfl⟩;have hq2':=zU hq2;clear hq2;cases k with
  |zero=>
   refine into ?_;rw [<-hq2'.down];rfl
  |succ k=>
   have e1:IntKind.i64.wrap ((a:Int)+(k:Int))=((a+k:Nat):Int):=by rw [wrap_i64]<;>omega
   have e2:IntKind.i64.wrap ((k:Int)-1)=dn k:=by unfold dn;rw [wrap_i64]<;>omega
   have l1:a<n:=by omega
   have l2:a+k<n:=by omega
   have l1':a<d2.size:=by omega
   have l2':a+k<d2.size:=by omega
   refine into ?_;refine (zpr (root:=0) (d:=Sort.swp d2 a (a+k)) h'.down (by rw [swp_size];exact hd2) (by omega) (by omega) hn).mono ?_;rintro _ _ ⟨rfl,rfl⟩;refine am ?_;refine ⟨k,by omega,Sort.siftDown ltN k a 0 (Sort.swp d2 a (a+k)),by rw [ziz,swp_size];exact hd2,by omega,?_,zh,rfl⟩;rw [<-hq2'.down];rfl
 |succ k=>
  have e2:IntKind.i64.wrap ((k:Int)-1)=dn k:=by unfold dn;rw [wrap_i64]<;>omega
  refine into ?_;refine (zpr (root:=k) (d:=d') h'.down hd' (by omega) (by omega) hn).mono ?_;rintro _ _ ⟨rfl,rfl⟩;refine am ?_;refine ⟨k,by omega,Sort.siftDown ltN hi a k d',by rw [ziz];exact hd',by omega,?_,zh,rfl⟩;rw [<-hq'.down];rfl
end
end Go.AM.G
namespace Go.AM.G
open Go Go.AM
structure Pq (Nn:Blk->Mem) (b q:Nat) (X:Blk):Prop where
 row: ∀Y,(Nn Y)[b]? =some X
 get: ∀Y,(Nn Y)[q]? =some Y
 set: ∀Y Z,(Nn Y).set q Z=Nn Z
abbrev ctr (s:Nat):Blk:= .cells true [[.int .i64 (s:Nat)]]
theorem zw6 (s:Nat):zhG (some (ctr s)) none 0 0=some (.int .i64 (s:Nat)):=rfl
theorem zvl (s t:Nat):zcW (some (ctr s)) 1 0 0 (.int .i64 (t:Nat))=some (ctr t):=rfl
section
variable {Nn:Blk->Mem}{b q n cap:Nat}{ex:Bool}{r:List (List V)}{d:AN}
theorem zib (h:Pq Nn b q (.cells true (zgZ d r))) (hd:d.size=n){i j s:Nat}(hi:i<n) (hj:j<n) (hs:s<1000):
  C S zY [sv b n cap ex,.int .i64 (i:Nat),.int .i64 (j:Nat),.ptr q 0 0] (Nn (ctr s)) (fun v m'=>v= .tup [.int .i64 ((Sort.order2 ltN d i j s).1:Nat),.int .i64 ((Sort.order2 ltN d i j s).2.1:Nat)]/\m'=Nn (ctr (Sort.order2 ltN d i j s).2.2)):=by
 have i1:=zad;have i3:= @zei b n cap ex;have hrow:=h.row;have hget:=h.get;have hset:=h.set;have k1:=zw6;have k2:=zvl;have h':=zU h;clear h;have l1:i<d.size:=by omega
 have l2:j<d.size:=by omega
 have w1:IntKind.i64.wrap ((s:Int)+1)=((s+1:Nat):Int):=by rw [wrap_i64]<;>omega
 refine fn rfl ?_;refine zN.mono ?_;rintro _ _ ⟨rfl,rfl⟩;cases hl:ltN d[j]! d[i]! with
 |true=>
  have e:PLift (Sort.order2 ltN d i j s=(j,i,s+1)):=⟨by rw [Sort.order2,if_pos hl]⟩
  refine am ?_;rw [e.down];exact ⟨rfl,rfl⟩
 |false=>
  have e:PLift (Sort.order2 ltN d i j s=(i,j,s)):=⟨by rw [Sort.order2,if_neg (by rw [hl];decide)]⟩
  refine am ?_;rw [e.down];exact ⟨rfl,rfl⟩
theorem zgu {d:AN}{i j s:Nat}{P:Nat->Prop}(h1:P i) (h2:P j):P (Sort.order2 ltN d i j s).1/\P (Sort.order2 ltN d i j s).2.1/\(Sort.order2 ltN d i j s).2.2<=s+1:=by
 unfold Sort.order2
 split
 ·exact ⟨h2,h1,Nat.le_refl _⟩
 ·exact ⟨h1,h2,Nat.le_succ _⟩
theorem zic (h:Pq Nn b q (.cells true (zgZ d r))) (hd:d.size=n){i j k s:Nat}(hi:i<n) (hj:j<n) (hk:k<n) (hs:s<900):
  C S zay [sv b n cap ex,.int .i64 (i:Nat),.int .i64 (j:Nat),.int .i64 (k:Nat),.ptr q 0 0] (Nn (ctr s)) (fun v m'=>v= .int .i64 ((Sort.median ltN d i j k s).1:Nat)/\m'=Nn (ctr (Sort.median ltN d i j k s).2)):=by
 have h':=zU h;have a1:= @zgu d i j s (· <n) hi hj;have a2:= @zgu d (Sort.order2 ltN d i j s).2.1 k (Sort.order2 ltN d i j s).2.2 (· <n) a1.2.1 hk;have a3:=zU (And.intro a1 a2);clear h a1 a2;refine fn rfl ?_;refine (zib h'.down hd hi hj (by omega)).mono ?_;rintro _ _ ⟨rfl,rfl⟩;refine am ?_;refine (zib h'.down hd a3.down.1.2.1 hk (by have:=a3.down.1.2.2;omega)).mono ?_;rintro _ _ ⟨rfl,rfl⟩;refine am ?_;refine (zib h'.down hd a3.down.1.1 a3.down.2.1 (by have:=a3.down.1.2.2;have:=a3.down.2.2.2;omega)).mono ?_;rintro _ _ ⟨rfl,rfl⟩;refine am ?_;exact ⟨rfl,rfl⟩
theorem zvm {d:AN}{i j k s:Nat}{P:Nat->Prop}(h1:P i) (h2:P j) (h3:P k):P (Sort.median ltN d i j k s).1/\(Sort.median ltN d i j k s).2<=s+3:=by
 have a1:= @zgu d i j s P h1 h2;have a2:= @zgu d (Sort.order2 ltN d i j s).2.1 k (Sort.order2 ltN d i j s).2.2 P a1.2.1 h3;have a3:= @zgu d (Sort.order2 ltN d i j s).1 (Sort.order2 ltN d (Sort.order2 ltN d i j s).2.1 k (Sort.order2 ltN d i j s).2.2).1 (Sort.order2 ltN d (Sort.order2 ltN d i j s).2.1 k (Sort.order2 ltN d i j s).2.2).2.2 P a1.1 a2.1;refine ⟨a3.2.1,?_⟩;have:=a1.2.2;have:=a2.2.2;have:=a3.2.2;unfold Sort.median;dsimp only;omega
theorem zfc (h:Pq Nn b q (.cells true (zgZ d r))) (hd:d.size=n){i s:Nat}(h0:0<i) (hi:i+1<n) (hs:s<900) (hn:n<100000000000000000):
  C S zI [sv b n cap ex,.int .i64 (i:Nat),.ptr q 0 0] (Nn (ctr s)) (fun v m'=>v= .int .i64 ((Sort.medianAdjacent ltN d i s).1:Nat)/\m'=Nn (ctr (Sort.medianAdjacent ltN d i s).2)):=by
 have h':=zU h;clear h;have w1:IntKind.i64.wrap ((i:Int)-1)=((i-1:Nat):Int):=by rw [wrap_i64]<;>omega
 have w2:IntKind.i64.wrap ((i:Int)+1)=((i+1:Nat):Int):=by rw [wrap_i64]<;>omega
 refine fn rfl ?_;refine (zic h'.down hd (by omega) (by omega) hi (by omega)).mono ?_;rintro _ _ ⟨rfl,rfl⟩;refine am ?_;exact ⟨rfl,rfl⟩
theorem zg0 {d:AN}{i s:Nat}:i-1<=(Sort.medianAdjacent ltN d i s).1/\(Sort.medianAdjacent ltN d i s).1<=i+1/\(Sort.medianAdjacent ltN d i s).2<=s+3:=by
 have:= @zvm d (i-1) i (i+1) s (fun x=>i-1<=x/\x<=i+1) (by omega) (by omega) (by omega);exact ⟨this.1.1,this.1.2,this.2⟩
end
end Go.AM.G
namespace Go.AM.G
open Go Go.AM
def hcode (h:Sort.Hint):Int:=
 match h with
 | .unknown=>0
 | .increasing=>1
 | .decreasing=>2
def hintOf (s:Nat):Sort.Hint:=if s=0 then .increasing else if s=12 then .decreasing else .unknown
theorem Pl.pq {Mm:Blk->Mem}{b:Nat}(h:Pl Mm b) (X:Blk):Pq (fun Y=>Mm X++[Y]) b (Mm X).length X:=⟨fun Y=>h.get X [Y],fun Y=>by simp,fun Y Z=>by simp⟩
theorem zqA {d:AN}{a c:Nat}(h:c-a<8):Sort.choosePivot ltN d a c=(a+(c-a)/4*2,.increasing):=by
 unfold Sort.choosePivot;dsimp only;rw [if_neg (by omega)];rfl
theorem zta {d:AN}{a c:Nat}(h:8<=c-a) (h2:c-a<50):Sort.choosePivot ltN d a c=((Sort.median ltN d (a+(c-a)/4*1) (a+(c-a)/4*2) (a+(c-a)/4*3) 0).1,hintOf (Sort.median ltN d (a+(c-a)/4*1) (a+(c-a)/4*2) (a+(c-a)/4*3) 0).2):=by
 unfold Sort.choosePivot;dsimp only;rw [if_pos h,if_neg (by omega)];rfl
abbrev zux (d:AN) (i j k:Nat):Nat×Nat:=
 Sort.median ltN d (Sort.medianAdjacent ltN d i 0).1 (Sort.medianAdjacent ltN d j (Sort.medianAdjacent ltN d i 0).2).1 (Sort.medianAdjacent ltN d k (Sort.medianAdjacent ltN d j (Sort.medianAdjacent ltN d i 0).2).2).1 (Sort.medianAdjacent ltN d k (Sort.medianAdjacent ltN d j (Sort.medianAdjacent ltN d i 0).2).2).2
theorem ztb {d:AN}{a c:Nat}(h2:50<=c-a):Sort.choosePivot ltN d a c=((zux d (a+(c-a)/4*1) (a+(c-a)/4*2) (a+(c-a)/4*3)).1,hintOf (zux d (a+(c-a)/4*1) (a+(c-a)/4*2) (a+(c-a)/4*3)).2):=by
 unfold Sort.choosePivot;dsimp only;rw [if_pos (by omega),if_pos h2];rfl
section
variable {Mm:Blk->Mem}{b n cap:Nat}{ex:Bool}{r:List (List V)}
theorem zid {m:Mem}{s p:Nat}{x:Sort.Hint}(hx:hintOf s=x){Q:V->Mem->Prop}(hQ: ∀g,Q (.tup [.int .i64 (p:Nat),.int .i64 (hcode x)]) (m++g)){fr:Frame}(F:Has fr [(9,.ptr m.length 0 0),(11,.int .i64 (p:Nat))]):
  W S zaO fr (m++[ctr s]) (zln [.t 6,.t 7] Q):=by
 have hQ':=zU hQ;clear hQ
 by_cases h0:s=0
 ·subst h0
  have e:x= .increasing:=by rw [<-hx];rfl
  subst e;refine into ?_;exact hQ'.down _
 have c1:((s:Int)=0)=False:=eq_false (by omega)
 by_cases h12:s=12
 ·subst h12
  have e:x= .decreasing:=by rw [<-hx];rfl
  subst e;refine into ?_;exact hQ'.down _
 have c2:((s:Int)=12)=False:=eq_false (by omega);have e:x= .unknown:=by rw [<-hx,hintOf,if_neg h0,if_neg h12]
 subst e;clear hx h0 h12;refine into ?_;exact hQ'.down _
theorem choose_spec (h:Pl Mm b){d:AN}(hd:d.size=n){a c:Nat}(hac:a<c) (hc:c<=n) (hn:n<100000000000000000):
  C S zaX [sv b n cap ex,.int .i64 (a:Nat),.int .i64 (c:Nat)] (at_ Mm r d) (fun v m'=>v= .tup [.int .i64 ((Sort.choosePivot ltN d a c).1:Nat),.int .i64 (hcode (Sort.choosePivot ltN d a c).2)]/\ ∃g,m'=at_ Mm r d++g):=by
 have h':=zU h;have hq:=zU (h.pq (.cells true (zgZ d r)));clear h;have hB:PLift (∀p:Sort.Hint×Nat×Nat,True):=⟨fun _=>trivial⟩
 obtain ⟨l,el⟩: ∃l,c-a=l:=⟨_,rfl⟩
 have w0:IntKind.i64.wrap ((c:Int)-(a:Int))=(l:Int):=by rw [wrap_i64]<;>omega
 have w1:(l:Int).tdiv 4=((l/4:Nat):Int):=zj0 (b:=4);have w1':IntKind.i64.wrap ((l/4:Nat):Int)=((l/4:Nat):Int):=by rw [wrap_i64]<;>omega
 have w2:IntKind.i64.wrap (((l/4:Nat):Int)*1)=((l/4*1:Nat):Int):=by rw [wrap_i64]<;>omega
 have w3:IntKind.i64.wrap (((l/4:Nat):Int)*2)=((l/4*2:Nat):Int):=by rw [wrap_i64]<;>omega
 have w4:IntKind.i64.wrap (((l/4:Nat):Int)*3)=((l/4*3:Nat):Int):=by rw [wrap_i64]<;>omega
 have w5:IntKind.i64.wrap ((a:Int)+((l/4*1:Nat):Int))=((a+l/4*1:Nat):Int):=by rw [wrap_i64]<;>omega
 have w6:IntKind.i64.wrap ((a:Int)+((l/4*2:Nat):Int))=((a+l/4*2:Nat):Int):=by rw [wrap_i64]<;>omega
 have w7:IntKind.i64.wrap ((a:Int)+((l/4*3:Nat):Int))=((a+l/4*3:Nat):Int):=by rw [wrap_i64]<;>omega
 have c4:((4:Int)=0)=False:=by decide
 by_cases h8:8<=l
 case neg=>
  have c1:((8:Int)<=(l:Int))=False:=eq_false (by omega);have eq:=zU (@zqA d a c (by omega));refine fn rfl ?_;refine zid (s:=0) (p:=a+l/4*2) (x:= .increasing) rfl (fun g=>⟨?_,g,rfl⟩) zh;rw [eq.down,el]
 have c1:((8:Int)<=(l:Int))=True:=eq_true (by omega)
 by_cases h50:50<=l
 case neg=>
  have c2:((50:Int)<=(l:Int))=False:=eq_false (by omega);have eq:=zU (@zta d a c (by omega) (by omega));refine fn rfl ?_;refine into ?_;refine (zic (s:=0) hq.down hd (by omega) (by omega) (by omega) (by omega)).mono ?_;rintro _ _ ⟨rfl,rfl⟩;refine am ?_;refine zid (s:=(Sort.median ltN d (a+l/4*1) (a+l/4*2) (a+l/4*3) 0).2) (p:=(Sort.median ltN d (a+l/4*1) (a+l/4*2) (a+l/4*3) 0).1) rfl (fun g=>⟨?_,g,rfl⟩) zh;rw [eq.down,el]
 have c2:((50:Int)<=(l:Int))=True:=eq_true (by omega);have eq:=zU (@ztb d a c (by omega));have b1:=zU (@zg0 d (a+l/4*1) 0);have b2:=zU (@zg0 d (a+l/4*2) (Sort.medianAdjacent ltN d (a+l/4*1) 0).2);have b3:=zU (@zg0 d (a+l/4*3) (Sort.medianAdjacent ltN d (a+l/4*2) (Sort.medianAdjacent ltN d (a+l/4*1) 0).2).2);refine fn rfl ?_;refine (zfc (s:=0) hq.down hd (by omega) (by omega) (by omega) hn).mono ?_;rintro _ _ ⟨rfl,rfl⟩;refine am ?_;refine (zfc hq.down hd (by omega) (by omega) (by have:=b1.down;omega) hn).mono ?_;rintro _ _ ⟨rfl,rfl⟩;refine am ?_;refine (zfc hq.down hd (by omega) (by omega) (by have:=b1.down;have:=b2.down;omega) hn).mono ?_;rintro _ _ ⟨rfl,rfl⟩;refine am ?_;refine into ?_;refine (zic hq.down hd (by have:=b1.down;omega) (by have:=b2.down;omega) (by have:=b3.down;omega) (by have:=b1.down;have:=b2.down;have:=b3.down;omega)).mono ?_;rintro _ _ ⟨rfl,rfl⟩;refine am ?_;refine zid (s:=(zux d (a+l/4*1) (a+l/4*2) (a+l/4*3)).2) (p:=(zux d (a+l/4*1) (a+l/4*2) (a+l/4*3)).1) rfl (fun g=>⟨?_,g,rfl⟩) zh;rw [eq.down,el]
theorem rev_size {i j:Nat}{d:AN}:(Sort.reverseLoop i j d).size=d.size:=by
 fun_induction Sort.reverseLoop i j d<;>simp_all [Sort.swp]
theorem zqB (h:Pl Mm b){d:AN}(hd:d.size=n){a c:Nat}(hac:a<c) (hc:c<=n) (hn:n<100000000000000000):
  C S zaN [sv b n cap ex,.int .i64 (a:Nat),.int .i64 (c:Nat)] (at_ Mm r d) (fun v m'=>v= .tup []/\m'=at_ Mm r (Sort.reverseRange d a c)):=by
 have i1:=zad;have i2:=zbK;have i3:= @zei b n cap ex;have i4:=zcw;have hg0: ∀X,(Mm X)[b]? =some X:=fun X=>by have:=h.get X [];simpa using this
 have hs0: ∀X Y,(Mm X).set b Y=Mm Y:=fun X Y=>by have:=h.set X Y [];simpa using this
 have h':=zU h;clear h;have w0:IntKind.i64.wrap ((c:Int)-1)=((c-1:Nat):Int):=by rw [wrap_i64]<;>omega
 refine fn rfl ?_
 let I:=fun (k:Nat) (fr:Frame) (M:Mem)=> ∃(i j:Nat) (d':AN),k=n-i/\i<=n/\j<n/\d'.size=n/\Sort.reverseLoop i j d'=Sort.reverseRange d a c/\Has fr [(0,sv b n cap ex),(6,.int .i64 (i:Nat)),(7,.int .i64 (j:Nat))]/\M=at_ Mm r d'
 refine zW I ?_ (n-a) ⟨a,c-1,d,rfl,by omega,by omega,hd,rfl,zh,rfl⟩;rintro k fr _ ⟨i,j,d',rfl,hin,hjn,hd',hq,F,rfl⟩;have hq':=zU hq;clear hq
 by_cases hij:i<j
 case neg=>
  have c1:((i:Int)<(j:Int))=False:=eq_false (by omega);refine into ?_;rw [<-hq'.down,Sort.reverseLoop,if_neg hij]
 have c1:((i:Int)<(j:Int))=True:=eq_true (by omega);have w1:IntKind.i64.wrap ((i:Int)+1)=((i+1:Nat):Int):=by rw [wrap_i64]<;>omega
 have w2:IntKind.i64.wrap ((j:Int)-1)=((j-1:Nat):Int):=by rw [wrap_i64]<;>omega
 have l1:i<n:=by omega
 have l1':i<d'.size:=by omega
 have l2':j<d'.size:=by omega
 refine into ?_;refine ⟨n-(i+1),by omega,i+1,j-1,Sort.swp d' i j,rfl,by omega,by omega,by rw [swp_size];exact hd',?_,zh,rfl⟩;rw [<-hq'.down]
 conv=>rhs;rw [Sort.reverseLoop,if_pos hij]
end
end Go.AM.G
namespace Go.AM.G
open Go Go.AM
theorem zy6 {w k p:Nat}(hk:k<64) (hp:2^k=p):shI .shl .u64 (w:Int) (k:Int)=some (.int .u64 ((w*p%18446744073709551616:Nat):Int)):=by
 unfold shI;rw [if_neg (by omega)];have e:Nat.min (k:Int).toNat IntKind.u64.bits=k:=by
  show Nat.min (k:Int).toNat 64=k;rw [Int.toNat_natCast];exact Nat.min_eq_left (by omega)
 simp only [e,Option.some.injEq,V.int.injEq,true_and];have h2:(w:Int)*2^k=((w*p:Nat):Int):=by rw [<-hp];simp
 rw [h2];show (((w*p:Nat):Int))%18446744073709551616=_;omega
theorem zBq {w k p:Nat}(hw:w<18446744073709551616) (hk:k<64) (hp:2^k=p):shI .shr .u64 (w:Int) (k:Int)=some (.int .u64 ((w/p:Nat):Int)):=by
 rw [zrc hw hk,Nat.shiftRight_eq_div_pow,hp]
theorem zyM {a b:Nat}(ha:a<18446744073709551616) (hb:b<18446744073709551616):IntKind.u64.wrap ↑(BitVec.ofInt IntKind.u64.bits (a:Int) ^^^ BitVec.ofInt IntKind.u64.bits (b:Int)).toNat=((a ^^^ b:Nat):Int):=by
 have h:(BitVec.ofInt IntKind.u64.bits (a:Int) ^^^ BitVec.ofInt IntKind.u64.bits (b:Int)).toNat=a ^^^ b:=by
  show (BitVec.ofNat 64 a ^^^ BitVec.ofNat 64 b).toNat=_;rw [BitVec.toNat_xor,BitVec.toNat_ofNat,BitVec.toNat_ofNat,Nat.mod_eq_of_lt ha,Nat.mod_eq_of_lt hb]
 rw [h,un' (Nat.xor_lt_two_pow (n:=64) ha hb)]
theorem bitLen_eq (x:Nat) (h:x<18446744073709551616):Lib.bitLen x=Sort.bitsLen x:=by
 unfold Sort.bitsLen
 induction x using Nat.strongRecOn with
 |_ x ih=>
  by_cases h0:x=0
  ·subst h0;rfl
  ·rw [Lib.bitLen_half x h0 h,ih (x/2) (by omega) (by omega),if_neg h0]
   by_cases h1:x/2=0
   ·rw [if_pos h1]
    have:x=1:=by omega
    subst this;rfl
   ·rw [if_neg h1]
    conv=>rhs;rw [Nat.log2_def]
    rw [if_pos (by omega)];omega
theorem znC {x k:Nat}(h:x<2^k):Sort.bitsLen x<=k:=by
 unfold Sort.bitsLen
 split
 ·omega
 ·rename_i h0
  have:=(Nat.log2_lt h0).2 h;omega
abbrev wrd (x:Nat):Blk:= .cells true [[.int .u64 (x:Nat)]]
theorem zw7 (s:Nat):zhG (some (wrd s)) none 0 0=some (.int .u64 (s:Nat)):=rfl
theorem zvn (s t:Nat):zcW (some (wrd s)) 1 0 0 (.int .u64 (t:Nat))=some (wrd t):=rfl
theorem zvo {Nn:Blk->Mem}{q x:Nat}(hget: ∀Y,(Nn Y)[q]? =some Y) (hset: ∀Y Z,(Nn Y).set q Z=Nn Z) (hx:x<18446744073709551616):
  C S zdt [.ptr q 0 0] (Nn (wrd x)) (fun v m'=>v= .int .u64 (Sort.xorNextN x:Nat)/\m'=Nn (wrd (Sort.xorNextN x))):=by
 have k1:=zw7;have k2:=zvn;have p:(18446744073709551616:Nat)=2^64:=by decide
 obtain ⟨a0,ea0⟩: ∃a0,x*8192%18446744073709551616=a0:=⟨_,rfl⟩
 have ha0:a0<18446744073709551616:=by omega
 obtain ⟨a,ea⟩: ∃a,x ^^^ a0=a:=⟨_,rfl⟩
 have ha:a<18446744073709551616:=by rw [<-ea,p];exact Nat.xor_lt_two_pow (by omega) (by omega)
 have hb0:a/128<18446744073709551616:=by omega
 obtain ⟨b,eb⟩: ∃b,a ^^^ (a/128)=b:=⟨_,rfl⟩
 have hb:b<18446744073709551616:=by rw [<-eb,p];exact Nat.xor_lt_two_pow (by omega) (by omega)
 obtain ⟨c0,ec0⟩: ∃c0,b*131072%18446744073709551616=c0:=⟨_,rfl⟩
 have hc0:c0<18446744073709551616:=by omega
 have s1:shI .shl .u64 (x:Int) 13=some (.int .u64 (a0:Nat)):=by rw [<-ea0];exact zy6 (k:=13) (by decide) (by decide)
 have s2:shI .shr .u64 (a:Int) 7=some (.int .u64 ((a/128:Nat):Nat)):=zBq (k:=7) ha (by decide) (by decide);have s3:shI .shl .u64 (b:Int) 17=some (.int .u64 (c0:Nat)):=by rw [<-ec0];exact zy6 (k:=17) (by decide) (by decide)
 have x1:IntKind.u64.wrap ↑(BitVec.ofInt IntKind.u64.bits (x:Int) ^^^ BitVec.ofInt IntKind.u64.bits (a0:Int)).toNat=((a:Nat):Int):=by rw [zyM hx ha0,ea]
 have x2:IntKind.u64.wrap ↑(BitVec.ofInt IntKind.u64.bits (a:Int) ^^^ BitVec.ofInt IntKind.u64.bits ((a/128:Nat):Int)).toNat=((b:Nat):Int):=by rw [zyM ha hb0,eb]
 have x3:IntKind.u64.wrap ↑(BitVec.ofInt IntKind.u64.bits (b:Int) ^^^ BitVec.ofInt IntKind.u64.bits (c0:Int)).toNat=((b ^^^ c0:Nat):Int):=zyM hb hc0;have hfin:PLift (Sort.xorNextN x=b ^^^ c0):=⟨by
  unfold Sort.xorNextN;dsimp only;rw [ea0,ea,eb,ec0]⟩
 clear ea0 ea eb ec0 p;refine fn rfl ?_;rw [hfin.down];exact ⟨rfl,rfl⟩
theorem zvp {m:Mem}{l:Nat}(hl:l<100000000000000000):C S zc3 [.int .i64 (l:Nat)] m (fun v m'=>v= .int .u64 ((1 <<< Sort.bitsLen l:Nat):Nat)/\m'=m):=by
 have w1:IntKind.u64.wrap (l:Int)=(l:Int):=un' (by omega);have hb:Sort.bitsLen l<64:=Nat.lt_of_le_of_lt (znC (k:=57) (by omega)) (by decide);have s1:shI .shl .u64 1 ((Sort.bitsLen l:Nat):Int)=some (.int .u64 ((2^Sort.bitsLen l:Nat):Nat)):=zyp hb;have e:PLift ((1 <<< Sort.bitsLen l:Nat)=2^Sort.bitsLen l):=⟨by rw [Nat.shiftLeft_eq,Nat.one_mul]⟩
 refine fn rfl ?_;refine (zhR (n:=l) (by omega)).mono ?_;rintro _ _ ⟨rfl,rfl⟩;rw [bitLen_eq l (by omega)];refine am ?_;rw [e.down]
end Go.AM.G
namespace Go.AM.G
open Go Go.AM
theorem Pl.len {Mm:Blk->Mem}{b:Nat}(h:Pl Mm b): ∃L,∀X,(Mm X).length=L:=by
 refine ⟨(Mm .dead).length,fun X=> ?_⟩;have:=h.set .dead X [];rw [List.append_nil,List.append_nil] at this;rw [<-this,List.length_set]
theorem zyN {l:Nat}(h:0<l):1 <<< Sort.bitsLen l<=2*l:=by
 rw [Nat.shiftLeft_eq,Nat.one_mul];unfold Sort.bitsLen;rw [if_neg (by omega),Nat.pow_succ];have:=Nat.log2_self_le (n:=l) (by omega);omega
def ztc (a l M i0:Nat):Nat->UInt64×AN->AN
 |0,st=>st.2
 |k+1,st=>ztc a l M i0 k (Sort.breakStep a l M st (i0+(3-(k+1))))
theorem zr1 {d:AN}{a c:Nat}(h:8<=c-a):Sort.breakPatterns d a c=ztc a (c-a) (1 <<< Sort.bitsLen (c-a)) (a+(c-a)/4*2-1) 3 (UInt64.ofNat (c-a),d):=by
 unfold Sort.breakPatterns;dsimp only;rw [if_pos h];rfl
theorem zlQ {d:AN}{a c:Nat}(h:c-a<8):Sort.breakPatterns d a c=d:=by
 unfold Sort.breakPatterns;dsimp only;rw [if_neg (by omega)]
section
variable {Mm:Blk->Mem}{b n cap:Nat}{ex:Bool}{r:List (List V)}
theorem ztd (h:Pl Mm b){d:AN}(hd:d.size=n){a c:Nat}(hac:a<c) (hc:c<=n) (hn:n<100000000000000000):
  C S zaJ [sv b n cap ex,.int .i64 (a:Nat),.int .i64 (c:Nat)] (at_ Mm r d) (fun v m'=>v= .tup []/\ ∃g,m'=at_ Mm r (Sort.breakPatterns d a c)++g):=by
 have i1:=zad;have i2:=zbK;have i3:= @zei b n cap ex;have i4:=zcw;have hg:=h.get;have hs:=h.set;obtain ⟨L,hL⟩:=h.len;have q1: ∀X Y,(Mm X++[Y])[L]? =some Y:=fun X Y=>by rw [<-hL X];simp
 have q2: ∀X Y Z,(Mm X++[Y]).set L Z=Mm X++[Z]:=fun X Y Z=>by rw [<-hL X];simp
 have h':=zU h;clear h;obtain ⟨l,el⟩: ∃l,c-a=l:=⟨_,rfl⟩
 have w0:IntKind.i64.wrap ((c:Int)-(a:Int))=(l:Int):=by rw [wrap_i64]<;>omega
 by_cases h8:8<=l
 case neg=>
  have c1:((8:Int)<=(l:Int))=False:=eq_false (by omega);have e:=zU (@zlQ d a c (by omega));refine fn rfl ?_;exact ⟨[],by rw [e.down];simp⟩
 have c1:((8:Int)<=(l:Int))=True:=eq_true (by omega);have eq0:= @zr1 d a c (by omega);rw [el] at eq0;obtain ⟨M,eM⟩: ∃M,1 <<< Sort.bitsLen l=M:=⟨_,rfl⟩
 obtain ⟨i0,ei⟩: ∃i0,a+l/4*2-1=i0:=⟨_,rfl⟩
 rw [eM,ei] at eq0;have eq':=zU eq0;clear eq0;have hM1:M<=2*l:=by rw [<-eM];exact zyN (by omega)
 have hM0:0<M:=by rw [<-eM,Nat.shiftLeft_eq,Nat.one_mul];exact Nat.two_pow_pos _
 have u0:IntKind.u64.wrap (l:Int)=(l:Int):=un' (by omega);have w1:(l:Int).tdiv 4=((l/4:Nat):Int):=zj0 (b:=4);have w1':IntKind.i64.wrap ((l/4:Nat):Int)=((l/4:Nat):Int):=by rw [wrap_i64]<;>omega
 have w3:IntKind.i64.wrap (((l/4:Nat):Int)*2)=((l/4*2:Nat):Int):=by rw [wrap_i64]<;>omega
 have w6:IntKind.i64.wrap ((a:Int)+((l/4*2:Nat):Int))=((a+l/4*2:Nat):Int):=by rw [wrap_i64]<;>omega
 have w7:IntKind.i64.wrap (((a+l/4*2:Nat):Int)-1)=(i0:Int):=by rw [wrap_i64]<;>omega
 have w8:IntKind.i64.wrap (((a+l/4*2:Nat):Int)+1)=((i0+2:Nat):Int):=by rw [wrap_i64]<;>omega
 have w9:IntKind.u64.wrap ((M:Int)-1)=((M-1:Nat):Int):=by
  have:(M:Int)-1=((M-1:Nat):Int):=by omega
  rw [this];exact un' (by omega)
 have c4:((4:Int)=0)=False:=by decide
 have hl0:(UInt64.ofNat l).toNat=l:=by
  rw [UInt64.toNat_ofNat'];exact Nat.mod_eq_of_lt (by omega)
 refine fn rfl ?_;refine (zvp (l:=l) (by omega)).mono ?_;rintro _ _ ⟨rfl,rfl⟩;rw [eM];refine am ?_
 let I:=fun (k:Nat) (fr:Frame) (m':Mem)=> ∃(st:UInt64×AN) (i:Nat),st.2.size=n/\k<=3/\i=i0+(3-k)/\ztc a l M i0 k st=Sort.breakPatterns d a c/\Has fr [(0,sv b n cap ex),(1,.int .i64 (a:Nat)),(6,.int .i64 (l:Nat)),(7,.ptr L 0 0),(8,.int .u64 (M:Nat)),(9,.int .i64 (i:Nat))]/\m'=at_ Mm r st.2++[wrd st.1.toNat]
 refine zW I ?_ 3 ⟨(UInt64.ofNat l,d),i0,hd,Nat.le_refl _,rfl,eq'.down.symm,zh,by rw [hl0]⟩;rintro k fr _ ⟨⟨x,d'⟩,i,hd',hk,hi,hq,F,rfl⟩;have hq':=zU hq;clear hq;have hd':d'.size=n:=hd';cases k with
 |zero=>
  have c2:((i:Int)<=((i0+2:Nat):Int))=False:=eq_false (by omega);clear hi;refine into ?_;exact ⟨_,by rw [<-hq'.down];rfl⟩
 |succ k=>
  have c2:((i:Int)<=((i0+2:Nat):Int))=True:=eq_true (by omega);have w10:IntKind.i64.wrap ((i:Int)+1)=((i+1:Nat):Int):=by rw [wrap_i64]<;>omega
  have hx:=x.toNat_lt;obtain ⟨y,ey⟩: ∃y,Sort.xorNextN x.toNat=y:=⟨_,rfl⟩
  have hy:y<18446744073709551616:=by rw [<-ey];exact Sort.xorNextN_lt _ hx
  have ey2:PLift ((Sort.xorNext x).toNat=y):=⟨by rw [Sort.xorNext_toNat,ey]⟩
  obtain ⟨o,eo⟩: ∃o,y &&& (M-1)=o:=⟨_,rfl⟩
  have ho:o<=M-1:=by rw [<-eo];exact Nat.and_le_right
  have a1:IntKind.u64.wrap ↑(BitVec.ofInt IntKind.u64.bits (y:Int) &&& BitVec.ofInt IntKind.u64.bits ((M-1:Nat):Int)).toNat=((o:Nat):Int):=by rw [zwa hy,eo]
  have a2:IntKind.i64.wrap (o:Int)=(o:Int):=wn (by omega);have li:i<n:=by omega
  have li':i<d'.size:=by omega
  have step:PLift (Sort.breakStep a l M (x,d') i=(Sort.xorNext x,Sort.swp d' i (a+(if o ≥ l then o-l else o)))):=⟨by
   unfold Sort.breakStep;dsimp only;rw [ey2.down,eo]⟩
  have ei2:PLift (i0+(3-(k+1))=i):=⟨hi.symm⟩
  have hi':=zU hi;clear eo ey hi;refine into ?_;refine (zvo (Nn:=fun Y=>at_ Mm r d'++[Y]) (q:=L) (x:=x.toNat) (fun Y=>q1 _ Y) (fun Y Z=>q2 _ Y Z) hx).mono ?_;rintro _ _ ⟨rfl,rfl⟩;rw [<-Sort.xorNext_toNat,ey2.down]
  by_cases hol:l<=o
  ·have c3:((l:Int)<=(o:Int))=True:=eq_true (by omega)
   have w11:IntKind.i64.wrap ((o:Int)-(l:Int))=((o-l:Nat):Int):=by rw [wrap_i64]<;>omega
   have w12:IntKind.i64.wrap ((a:Int)+((o-l:Nat):Int))=((a+(o-l):Nat):Int):=by rw [wrap_i64]<;>omega
   have lo:a+(o-l)<n:=by omega
   have lo':a+(o-l)<d'.size:=by omega
   refine am ?_;refine into ?_;refine ⟨k,by omega,(Sort.xorNext x,Sort.swp d' i (a+(o-l))),i+1,by rw [swp_size];exact hd',by omega,by have:=hi'.down;omega,?_,zh,?_⟩
   ·rw [<-hq'.down,ztc,ei2.down,step.down,if_pos hol]
   ·rw [ey2.down];rfl
  ·have c3:((l:Int)<=(o:Int))=False:=eq_false (by omega)
   have w12:IntKind.i64.wrap ((a:Int)+(o:Int))=((a+o:Nat):Int):=by rw [wrap_i64]<;>omega
   have lo:a+o<n:=by omega
   have lo':a+o<d'.size:=by omega
   refine am ?_;refine into ?_;refine ⟨k,by omega,(Sort.xorNext x,Sort.swp d' i (a+o)),i+1,by rw [swp_size];exact hd',by omega,by have:=hi'.down;omega,?_,zh,?_⟩
   ·rw [<-hq'.down,ztc,ei2.down,step.down,if_neg hol]
   ·rw [ey2.down];rfl
end
end Go.AM.G
namespace Go.AM.G
open Go Go.AM
theorem zxT {c j:Nat}{d:AN}:(Sort.shiftUp ltN c j d).size=d.size:=by
 fun_induction Sort.shiftUp ltN c j d<;>simp_all [Sort.swp]
theorem zps: ∀{j:Nat}{d:AN},(Sort.shiftDown ltN j d).size=d.size
 |0,_=>rfl
 |j+1,d=>by
  rw [Sort.shiftDown]
  split
  ·rfl
  ·rw [zps,swp_size]
section
variable {Mm:Blk->Mem}{b n cap:Nat}{ex:Bool}{r:List (List V)}
theorem zqC (h:Pl Mm b){d:AN}(hd:d.size=n){a c i t:Nat}(hi:i<c) (hi0:0<i) (hc:c<=n) (hn:n<100000000000000000){fr:Frame}(F:Has fr [(0,sv b n cap ex),(1,.int .i64 (a:Nat)),(2,.int .i64 (c:Nat)),(7,.int .i64 (i:Nat)),(8,.int .i64 (t:Nat))])
  {Q:zar->Frame->Mem->Prop}(hQ: ∀fr',Has fr' [(0,sv b n cap ex),(1,.int .i64 (a:Nat)),(2,.int .i64 (c:Nat)),(7,.int .i64 (i:Nat)),(8,.int .i64 (t:Nat))]->Q .normal fr' (at_ Mm r (if c-i ≥ 2 then Sort.shiftUp ltN c (i+1) d else d))):
  W S zac fr (at_ Mm r d) Q:=by
 have i1:=zad;have i2:=zbK;have i3:= @zei b n cap ex;have i4:=zcw;have hg0: ∀X,(Mm X)[b]? =some X:=fun X=>by have:=h.get X [];simpa using this
 have hs0: ∀X Y,(Mm X).set b Y=Mm Y:=fun X Y=>by have:=h.set X Y [];simpa using this
 have hQ':=zU hQ;clear h hQ;have w0:IntKind.i64.wrap ((c:Int)-(i:Int))=((c-i:Nat):Int):=by rw [wrap_i64]<;>omega
 by_cases h2:2<=c-i
 case neg=>
  have c1:((2:Int)<=((c-i:Nat):Int))=False:=eq_false (by omega);refine into ?_;have:=hQ'.down (put (put (put (put fr 95 (.int .i64 (c:Nat))) 96 (.int .i64 (i:Nat))) 97 (.int .i64 ((c-i:Nat):Nat))) 98 (.bool (decide ((2:Int)<=((c-i:Nat):Int))))) zh;rw [if_neg h2] at this;simp only [c1,decide_false] at this;exact this
 have c1:((2:Int)<=((c-i:Nat):Int))=True:=eq_true (by omega);have w1:IntKind.i64.wrap ((i:Int)+1)=((i+1:Nat):Int):=by rw [wrap_i64]<;>omega
 have q0:=zU (if_pos h2:(if c-i ≥ 2 then Sort.shiftUp ltN c (i+1) d else d)=_);refine into ?_
 let I:=fun (k:Nat) (fr:Frame) (m':Mem)=> ∃(j:Nat) (d':AN),k=c+1-j/\0<j/\j<=c/\d'.size=n/\Sort.shiftUp ltN c j d'=Sort.shiftUp ltN c (i+1) d/\Has fr [(0,sv b n cap ex),(1,.int .i64 (a:Nat)),(2,.int .i64 (c:Nat)),(7,.int .i64 (i:Nat)),(8,.int .i64 (t:Nat)),(10,.int .i64 (j:Nat))]/\m'=at_ Mm r d'
 refine zW I ?_ (c+1-(i+1)) ⟨i+1,d,rfl,by omega,by omega,hd,rfl,zh,rfl⟩;rintro k fr _ ⟨j,d',rfl,hj0,hjc,hd',hq,F,rfl⟩;have hq':=zU hq;clear hq
 by_cases hjlt:j<c
 case neg=>
  have c2:((j:Int)<(c:Int))=False:=eq_false (by omega);refine into ?_;have:=hQ'.down _ (show Has (put (put (put fr 101 (.int .i64 (j:Nat))) 102 (.int .i64 (c:Nat))) 103 (.bool false)) _ from zh);rw [q0.down,<-hq'.down,Sort.shiftUp,if_neg hjlt] at this;exact this
 have c2:((j:Int)<(c:Int))=True:=eq_true (by omega);have w2:IntKind.i64.wrap ((j:Int)-1)=((j-1:Nat):Int):=by rw [wrap_i64]<;>omega
 have w3:IntKind.i64.wrap ((j:Int)+1)=((j+1:Nat):Int):=by rw [wrap_i64]<;>omega
 have l1:j<n:=by omega
 have l2:j-1<n:=by omega
 have l1':j<d'.size:=by omega
 have l2':j-1<d'.size:=by omega
 have hu:PLift (Sort.shiftUp ltN c j d'=if ltN d'[j]! d'[j-1]! =true then Sort.shiftUp ltN c (j+1) (Sort.swp d' j (j-1)) else d'):=⟨by
  rw [Sort.shiftUp,if_pos hjlt];cases ltN d'[j]! d'[j-1]! <;>simp⟩
 refine into ?_;refine zN.mono ?_;rintro _ _ ⟨rfl,rfl⟩;cases hl:ltN d'[j]! d'[j-1]! with
 |false=>
  refine am ?_;have e:Sort.shiftUp ltN c (i+1) d=d':=by rw [<-hq'.down,hu.down,hl];rfl
  have:=fun fr'=>hQ'.down fr'
  rw [q0.down,e] at this;exact this _ zh
 |true=>
  refine am ?_;refine ⟨c+1-(j+1),by omega,j+1,Sort.swp d' j (j-1),rfl,by omega,by omega,by rw [swp_size];exact hd',?_,zh,rfl⟩;rw [<-hq'.down,hu.down,hl];rfl
end
end Go.AM.G
namespace Go.AM.G
open Go Go.AM
def zie (a c i:Nat) (d:AN):AN:=
 let d:=Sort.swp d i (i-1)
 let d:=if i-a ≥ 2 then Sort.shiftDown ltN (i-1) d else d
 if c-i ≥ 2 then Sort.shiftUp ltN c (i+1) d else d
theorem znD {a c i:Nat}{d:AN}:(zie a c i d).size=d.size:=by
 unfold zie;dsimp only
 split<;>split<;>simp [zxT,zps,swp_size]
theorem zku {a c s i:Nat}{d:AN}:Sort.partialIns ltN a c (s+1) i d=if Sort.scanSorted ltN d c i=c then (d,true) else if c-a<50 then (d,false) else Sort.partialIns ltN a c s (Sort.scanSorted ltN d c i) (zie a c (Sort.scanSorted ltN d c i) d):=rfl
theorem zpt {a c:Nat}: ∀{s i:Nat}{d:AN},(Sort.partialIns ltN a c s i d).1.size=d.size
 |0,_,_=>rfl
 |s+1,i,d=>by
  rw [zku]
  split
  ·rfl
  ·split
   ·rfl
   ·rw [zpt,znD]
section
variable {Mm:Blk->Mem}{b n cap:Nat}{ex:Bool}{r:List (List V)}
theorem zqD (h:Pl Mm b){d:AN}(hd:d.size=n){a c:Nat}(hac:a<c) (hc:c<=n) (hn:n<100000000000000000):
  C S zaf [sv b n cap ex,.int .i64 (a:Nat),.int .i64 (c:Nat)] (at_ Mm r d) (fun v m'=>v= .bool (Sort.partialInsertionSort ltN d a c).2/\m'=at_ Mm r (Sort.partialInsertionSort ltN d a c).1):=by
 have i1:=zad;have i2:=zbK;have i3:= @zei b n cap ex;have i4:=zcw;have hg0: ∀X,(Mm X)[b]? =some X:=fun X=>by have:=h.get X [];simpa using this
 have hs0: ∀X Y,(Mm X).set b Y=Mm Y:=fun X Y=>by have:=h.set X Y [];simpa using this
 have h':=zU h;clear h;have w0:IntKind.i64.wrap ((a:Int)+1)=((a+1:Nat):Int):=by rw [wrap_i64]<;>omega
 have w00:IntKind.i64.wrap ((c:Int)-(a:Int))=((c-a:Nat):Int):=by rw [wrap_i64]<;>omega
 refine fn rfl ?_
 let I:=fun (k:Nat) (fr:Frame) (m':Mem)=> ∃(t i:Nat) (d':AN),k<=5/\t+k=5/\a<i/\i<=c/\d'.size=n/\Sort.partialIns ltN a c k i d'=Sort.partialInsertionSort ltN d a c/\Has fr [(0,sv b n cap ex),(1,.int .i64 (a:Nat)),(2,.int .i64 (c:Nat)),(7,.int .i64 (i:Nat)),(8,.int .i64 (t:Nat))]/\m'=at_ Mm r d'
 refine zW I ?_ 5 ⟨0,a+1,d,by omega,rfl,by omega,by omega,hd,rfl,zh,rfl⟩;rintro k fr _ ⟨t,i,d',hk,ht,hai,hic,hd',hq,F,rfl⟩;have hq':=zU hq;clear hq;cases k with
 |zero=>
  have c2:((t:Int)<5)=False:=eq_false (by omega);refine into ?_;rw [<-hq'.down];exact ⟨rfl,rfl⟩
 |succ k=>
  have c2:((t:Int)<5)=True:=eq_true (by omega);have w1:IntKind.i64.wrap ((t:Int)+1)=((t+1:Nat):Int):=by rw [wrap_i64]<;>omega
  have ht':=zU ht;clear ht;refine into ?_
  let I2:=fun (kk:Nat) (fr:Frame) (m':Mem)=> ∃j:Nat,kk=c+1-j/\a<j/\j<=c/\Sort.scanSorted ltN d' c j=Sort.scanSorted ltN d' c i/\Has fr [(0,sv b n cap ex),(1,.int .i64 (a:Nat)),(2,.int .i64 (c:Nat)),(7,.int .i64 (j:Nat)),(8,.int .i64 (t:Nat))]/\m'=at_ Mm r d'
  refine zW I2 ?_ (c+1-i) ⟨i,rfl,hai,hic,rfl,zh,rfl⟩;rintro kk fr _ ⟨j,rfl,haj,hjc,hqj,F,rfl⟩;have hqj':=zU hqj;clear hqj;have fin:PLift (Sort.scanSorted ltN d' c j=j)-> ∀{fr':Frame},Has fr' [(0,sv b n cap ex),(1,.int .i64 (a:Nat)),(2,.int .i64 (c:Nat)),(7,.int .i64 (j:Nat)),(8,.int .i64 (t:Nat))]->PLift (True):=fun _ _ _=>⟨trivial⟩
  by_cases hgo:j<c/\ltN d'[j]! d'[j-1]! =false
  ·obtain ⟨hjlt,hl⟩:=hgo
   have c3:((j:Int)<(c:Int))=True:=eq_true (by omega);have w2:IntKind.i64.wrap ((j:Int)-1)=((j-1:Nat):Int):=by rw [wrap_i64]<;>omega
   have w3:IntKind.i64.wrap ((j:Int)+1)=((j+1:Nat):Int):=by rw [wrap_i64]<;>omega
   have l1:j<n:=by omega
   have l2:j-1<n:=by omega
   have l1':j<d'.size:=by omega
   have l2':j-1<d'.size:=by omega
   have hu:PLift (Sort.scanSorted ltN d' c j=Sort.scanSorted ltN d' c (j+1)):=⟨by
    conv=>lhs;rw [Sort.scanSorted,if_pos (by rw [hl];simp [hjlt])]⟩
   refine into ?_;refine zN.mono ?_;rintro _ _ ⟨rfl,rfl⟩;refine am ?_;exact ⟨c+1-(j+1),by omega,j+1,rfl,by omega,by omega,by rw [<-hqj'.down,hu.down],zh,rfl⟩
  have hst:PLift (Sort.scanSorted ltN d' c i=j):=⟨by
   rw [<-hqj'.down,Sort.scanSorted,if_neg];intro e;simp only [Bool.and_eq_true,decide_eq_true_eq,Bool.not_eq_true'] at e;exact hgo e⟩
  have tgt:PLift (Sort.partialInsertionSort ltN d a c=if j=c then (d',true) else if c-a<50 then (d',false) else Sort.partialIns ltN a c k j (zie a c j d')):=⟨by rw [<-hq'.down,zku,hst.down]⟩
  by_cases hjlt:j<c
  case neg=>
   have ejc:j=c:=by omega
   subst ejc;have c3:((j:Int)<(j:Int))=False:=eq_false (by omega);have e:=zU (if_pos rfl:(if j=j then ((d',true):AN×Bool) else if j-a<50 then (d',false) else Sort.partialIns ltN a j k j (zie a j j d'))=_);clear hgo;refine into ?_;rw [tgt.down,e.down];exact ⟨rfl,rfl⟩
  have hl:ltN d'[j]! d'[j-1]! =true:=by
   cases h:ltN d'[j]! d'[j-1]! with
   |true=>rfl
   |false=>exact absurd ⟨hjlt,h⟩ hgo
  clear hgo;have c3:((j:Int)<(c:Int))=True:=eq_true (by omega);have c4:((j:Int)=(c:Int))=False:=eq_false (by omega);have w2:IntKind.i64.wrap ((j:Int)-1)=((j-1:Nat):Int):=by rw [wrap_i64]<;>omega
  have w4:IntKind.i64.wrap ((j:Int)-(a:Int))=((j-a:Nat):Int):=by rw [wrap_i64]<;>omega
  have l1:j<n:=by omega
  have l2:j-1<n:=by omega
  have l1':j<d'.size:=by omega
  have l2':j-1<d'.size:=by omega
  have hjne:¬ j=c:=by omega
  by_cases h50:c-a<50
  ·have c5:(((c-a:Nat):Int)<50)=True:=eq_true (by omega)
   have e:=zU (tgt.down.trans ((if_neg hjne).trans (if_pos h50)));clear hjne tgt;refine into ?_;refine zN.mono ?_;rintro _ _ ⟨rfl,rfl⟩;refine am ?_;rw [e.down];exact ⟨rfl,rfl⟩
  have c5:(((c-a:Nat):Int)<50)=False:=eq_false (by omega);have e:=zU (tgt.down.trans ((if_neg hjne).trans (if_neg h50)));clear hjne tgt;have fin2: ∀(fr':Frame) (m':Mem),Has fr' [(0,sv b n cap ex),(1,.int .i64 (a:Nat)),(2,.int .i64 (c:Nat)),(7,.int .i64 (j:Nat)),(8,.int .i64 ((t+1:Nat):Nat))]->m'=at_ Mm r (zie a c j d')-> ∃kk,kk<k+1/\I kk fr' m':=fun fr' m' F' e'=>⟨k,by omega,t+1,j,zie a c j d',by omega,by have:=ht'.down;omega,haj,hjc,by rw [znD];exact hd',e.down.symm,F',e'⟩
  have fin2':=zU fin2;clear fin2 fin
  by_cases h2:2<=j-a
  case neg=>
   have c6:((2:Int)<=((j-a:Nat):Int))=False:=eq_false (by omega);have es:PLift ((if c-j ≥ 2 then Sort.shiftUp ltN c (j+1) (Sort.swp d' j (j-1)) else Sort.swp d' j (j-1))=zie a c j d'):=⟨by unfold zie;dsimp only;rw [if_neg h2]⟩
   refine into ?_;refine zN.mono ?_;rintro _ _ ⟨rfl,rfl⟩;refine am ?_;refine zqC (cap:=cap) (ex:=ex) (d:=Sort.swp d' j (j-1)) (a:=a) (i:=j) (t:=t) h'.down (by rw [swp_size];exact hd') hjlt (by omega) hc hn zh ?_;intro fr' F;rw [es.down];refine into ?_;exact fin2'.down _ _ zh rfl
  have c6:((2:Int)<=((j-a:Nat):Int))=True:=eq_true (by omega);refine into ?_;refine zN.mono ?_;rintro _ _ ⟨rfl,rfl⟩;refine am ?_
  let I3:=fun (q:Nat) (fr:Frame) (m':Mem)=> ∃d2:AN,q<=j-1/\d2.size=n/\Sort.shiftDown ltN q d2=Sort.shiftDown ltN (j-1) (Sort.swp d' j (j-1))/\Has fr [(0,sv b n cap ex),(1,.int .i64 (a:Nat)),(2,.int .i64 (c:Nat)),(7,.int .i64 (j:Nat)),(8,.int .i64 (t:Nat)),(9,.int .i64 (q:Nat))]/\m'=at_ Mm r d2
  refine zW I3 ?_ (j-1) ⟨Sort.swp d' j (j-1),Nat.le_refl _,by rw [swp_size];exact hd',rfl,zh,rfl⟩;rintro q fr _ ⟨d2,hqj,hd2,hqd,F,rfl⟩;have hqd':=zU hqd;clear hqd;have leave:PLift (Sort.shiftDown ltN q d2=d2)->PLift ((if c-j ≥ 2 then Sort.shiftUp ltN c (j+1) d2 else d2)=zie a c j d'):=fun hs=>⟨by
   unfold zie;dsimp only;rw [if_pos h2,<-hqd'.down,hs.down]⟩
  have leave':=zU leave;clear leave;cases q with
  |zero=>
   have es:=leave'.down ⟨rfl⟩;refine into ?_;refine zqC (cap:=cap) (ex:=ex) (d:=d2) (a:=a) (i:=j) (t:=t) h'.down hd2 hjlt (by omega) hc hn zh ?_;intro fr' F;rw [es.down];refine into ?_;exact fin2'.down _ _ zh rfl
  |succ q=>
   have c7:((1:Int)<=((q+1:Nat):Int))=True:=eq_true (by omega);have w5:IntKind.i64.wrap (((q+1:Nat):Int)-1)=(q:Int):=by rw [wrap_i64]<;>omega
   have l3:q+1<n:=by omega
   have l4:q<n:=by omega
   have l3':q+1<d2.size:=by omega
   have l4':q<d2.size:=by omega
   refine into ?_;refine zN.mono ?_;rintro _ _ ⟨rfl,rfl⟩;cases hl2:ltN d2[q+1]! d2[q]! with
   |false=>
    have es:=leave'.down ⟨by rw [Sort.shiftDown,if_pos (by rw [hl2];rfl)]⟩;refine am ?_;refine zqC (cap:=cap) (ex:=ex) (d:=d2) (a:=a) (i:=j) (t:=t) h'.down hd2 hjlt (by omega) hc hn zh ?_;intro fr' F;rw [es.down];refine into ?_;exact fin2'.down _ _ zh rfl
   |true=>
    refine am ?_;refine ⟨q,by omega,Sort.swp d2 (q+1) q,by omega,by rw [swp_size];exact hd2,?_,zh,rfl⟩;rw [<-hqd'.down]
    conv=>rhs;rw [Sort.shiftDown,if_neg (by rw [hl2];decide)]
end
end Go.AM.G
