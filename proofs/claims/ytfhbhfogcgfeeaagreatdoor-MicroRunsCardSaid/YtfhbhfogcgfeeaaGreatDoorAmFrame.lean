import Derived.Test.YtfhbhfogcgfeeaaGreatDoorAmSound
set_option linter.unusedVariables false
set_option linter.unusedSimpArgs false
namespace Go.AM
open Go
section
variable {m m':Mem}{id b:Nat}{blk:Blk}{v:V}
theorem zjm (hid:m[id]? =some .dead){own:Bool}{els:List (List V)}(hb:m[b]? =some (.cells own els)):b≠id/\(m.set id blk)[b]? =some (.cells own els):=by
 have h:b≠id:=fun e=>by subst e;rw [hid] at hb;cases hb
 exact ⟨h,by rw [List.getElem?_set_ne (fun e=>h e.symm)];exact hb⟩
theorem zjn (hid:m[id]? =some .dead) (h:b≠id) (x:Blk):(m.set b x)[id]? =some .dead/\(m.set id blk).set b x=(m.set b x).set id blk:=
 ⟨by rw [List.getElem?_set_ne h];exact hid,List.set_comm _ _ (fun e=>h e.symm)⟩
theorem ze7 (hid:m[id]? =some .dead) (x:List Blk):(m++x)[id]? =some .dead/\(m.set id blk)++x=(m++x).set id blk:=by
 have hl:id<m.length:=(List.getElem?_eq_some_iff.1 hid).1;exact ⟨by rw [List.getElem?_append_left hl];exact hid,(List.set_append_left _ _ hl).symm⟩
theorem zns (hid:m[id]? =some .dead){k:Option Nat}{a:V}(h:zaf m k a=some v):zaf (m.set id blk) k a=some v:=by
 unfold zaf at h ⊢
 split at h
 ·split at h
  ·rename_i hb
   simp only [(zjm (blk:=blk) hid hb).2];exact h
  ·cases h
 ·cases h
theorem zjR (hid:m[id]? =some .dead){x:V}{ys:List (List V)}(h:elems m x=some ys):elems (m.set id blk) x=some ys:=by
 unfold elems at h ⊢
 split at h
 ·exact h
 ·split at h
  ·rename_i hb
   simp only [(zjm (blk:=blk) hid hb).2];exact h
  ·cases h
 ·cases h
theorem zxF (hid:m[id]? =some .dead){x:V}{ys:List (List V)}(h:zcQ m x=some ys):zcQ (m.set id blk) x=some ys:=by
 cases x<;>first|exact h|exact zfN (zjR (blk:=blk) hid h)
theorem zxG (hid:m[id]? =some .dead){n:Nat}{a x:V}(h:zbg m n a x=some m'):m'[id]? =some .dead/\zbg (m.set id blk) n a x=some (m'.set id blk):=by
 unfold zbg at h ⊢
 split at h
 ·split at h
  ·rename_i hb
   obtain ⟨h1,h2⟩:=zjm (blk:=blk) hid hb;simp only [h2]
   split at h
   ·split at h
    ·rename_i hc
     cases h;obtain ⟨h3,h4⟩:=zjn (blk:=blk) hid h1 (.cells true _);refine ⟨h3,?_⟩;rw [if_pos hc,h4]
    ·cases h
   ·cases h
  ·cases h
 ·cases h
theorem zxH (hid:m[id]? =some .dead){tgt:Option Nat}(ht:tgt≠some id){x:Blk}(h:zaI m tgt x=some (b,m')):m'[id]? =some .dead/\zaI (m.set id blk) tgt x=some (b,m'.set id blk):=by
 cases tgt with
 |none=>
  simp only [zaI,Option.some.injEq,Prod.mk.injEq] at h ⊢;obtain ⟨rfl,rfl⟩:=h;obtain ⟨h1,h2⟩:=ze7 (blk:=blk) hid [x];exact ⟨h1,by simp,h2⟩
 |some i=>
  have hne:i≠id:=fun e=>ht (by rw [e])
  simp only [zaI] at h ⊢
  split at h
  ·rename_i hd
   simp only [Option.some.injEq,Prod.mk.injEq] at h;obtain ⟨rfl,rfl⟩:=h;obtain ⟨h1,h2⟩:=zjn (blk:=blk) hid hne x;refine ⟨h1,?_⟩;rw [List.getElem?_set_ne (fun e=>hne e.symm),hd];simp [h2]
  ·cases h
theorem zvo (hid:m[id]? =some .dead){z:List V}{by_:Nat}{x y:V}(h:zL m z by_ x y=some (v,m')):m'[id]? =some .dead/\zL (m.set id blk) z by_ x y=some (v,m'.set id blk):=by
 have hl:(m.set id blk).length=m.length:=List.length_set;unfold zL at h ⊢
 split at h
 ·cases h
 rename_i ys hys
 simp only [zxF (blk:=blk) hid hys]
 split at h
 ·cases h
 rename_i hz
 rw [if_neg hz]
 split at h
 ·split at h
  ·rename_i he
   cases h;exact ⟨hid,by simp only [if_pos he]⟩
  ·rename_i he
   simp only [if_neg he]
   split at h
   ·rename_i hr
    cases h;obtain ⟨h1,h2⟩:=ze7 (blk:=blk) hid [.cells true ys];exact ⟨h1,by simp only [if_pos hr,hl,h2]⟩
   ·cases h
 ·split at h
  ·cases h
  rename_i hzz
  simp only [if_neg hzz]
  split at h
  ·rename_i he
   cases h;exact ⟨hid,by simp only [if_pos he]⟩
  rename_i he
  simp only [if_neg he]
  split at h
  ·rename_i own els hb
   obtain ⟨h1,h2⟩:=zjm (blk:=blk) hid hb;simp only [h2]
   split at h
   ·rename_i hin
    simp only [if_pos hin]
    split at h
    ·rename_i hr
     simp only [if_pos hr]
     split at h
     ·rename_i ho
      cases h;obtain ⟨h3,h4⟩:=zjn (blk:=blk) hid h1 (.cells true _);exact ⟨h3,by simp only [if_pos ho,h4]⟩
     ·cases h
    ·rename_i hr
     simp only [if_neg hr]
     split at h
     ·rename_i hro
      simp only [if_pos hro]
      split at h
      ·rename_i hx
       cases h;obtain ⟨h3,h4⟩:=ze7 (blk:=blk) hid [.cells true _];exact ⟨h3,by simp only [if_pos hx,hl,h4]⟩
      ·rename_i hx
       simp only [if_neg hx]
       split at h
       ·rename_i ho
        cases h;obtain ⟨h3,h4⟩:=zjn (blk:=blk) hid h1 .dead;obtain ⟨h5,h6⟩:=ze7 (blk:=blk) h3 [.cells true _];exact ⟨h5,by simp only [if_pos ho,hl,h4,h6]⟩
       ·cases h
     ·cases h
   ·cases h
  ·cases h
 ·cases h
theorem zyM (hid:m[id]? =some .dead){z:Nat}{x y:V}(h:copyV m z x y=some (v,m')):m'[id]? =some .dead/\copyV (m.set id blk) z x y=some (v,m'.set id blk):=by
 unfold copyV at h ⊢
 split at h
 ·rename_i xs ys hxs hys
  simp only [zjR (blk:=blk) hid hxs,zjR (blk:=blk) hid hys];simp only at h
  split at h
  ·split at h
   ·cases h
   rename_i hz
   rw [if_neg hz]
   split at h
   ·rename_i hb
    obtain ⟨h1,h2⟩:=zjm (blk:=blk) hid hb;simp only [h2];cases h;obtain ⟨h3,h4⟩:=zjn (blk:=blk) hid h1 (.cells true _);exact ⟨h3,by rw [h4]⟩
   ·cases h
  ·cases h
   exact ⟨hid,rfl⟩
 ·cases h
theorem zxI (hid:m[id]? =some .dead){z:List V}{x:V}(h:zfu m z x=some (v,m')):m'[id]? =some .dead/\zfu (m.set id blk) z x=some (v,m'.set id blk):=by
 unfold zfu at h ⊢
 split at h
 ·cases h
  exact ⟨hid,rfl⟩
 ·split at h
  ·cases h
  rename_i hz
  rw [if_neg hz]
  split at h
  ·rename_i hb
   obtain ⟨h1,h2⟩:=zjm (blk:=blk) hid hb;simp only [h2]
   split at h
   ·rename_i hin
    rw [if_pos hin];cases h;obtain ⟨h3,h4⟩:=zjn (blk:=blk) hid h1 (.cells true _);exact ⟨h3,by rw [h4]⟩
   ·cases h
  ·cases h
 ·cases h
theorem zyN (hid:m[id]? =some .dead){z:List V}{by_:Nat}{x y:V}(h:zlK m z by_ x y=some (v,m')):m'[id]? =some .dead/\zlK (m.set id blk) z by_ x y=some (v,m'.set id blk):=by
 have hl:(m.set id blk).length=m.length:=List.length_set;unfold zlK at h ⊢
 split at h
 ·split at h
  ·rename_i hc
   cases h;obtain ⟨h1,h2⟩:=ze7 (blk:=blk) hid [.cells true _];exact ⟨h1,by simp only [if_pos hc,hl,h2]⟩
  ·cases h
 ·cases h
theorem zAg (hid:m[id]? =some .dead){x:V}{es:List (Int×Int)}(h:zyG m x=some es):zyG (m.set id blk) x=some es:=by
 unfold zyG at h ⊢
 split at h
 ·exact h
 ·rename_i b
  split at h
  ·rename_i hb
   have hne:b≠id:=fun e=>by subst e;rw [hid] at hb;cases hb
   simp only [List.getElem?_set_ne (fun e=>hne e.symm),hb];exact h
  ·cases h
 ·cases h
theorem zAh (hid:m[id]? =some .dead){x k u:V}(h:zvi m x k=some u):zvi (m.set id blk) x k=some u:=by
 unfold zvi at h ⊢
 split at h
 ·simp only [Option.map_eq_some_iff] at h ⊢
  obtain ⟨es,he,e⟩:=h;exact ⟨es,zAg hid he,e⟩
 ·cases h
theorem zAi (hid:m[id]? =some .dead){x k u:V}(h:zvj m x k u=some m'):m'[id]? =some .dead/\zvj (m.set id blk) x k u=some (m'.set id blk):=by
 unfold zvj at h ⊢
 split at h
 ·rename_i b _ _
  split at h
  ·rename_i hb
   have hne:b≠id:=fun e=>by subst e;rw [hid] at hb;cases hb
   cases h;obtain ⟨h1,h2⟩:=zjn (blk:=blk) hid hne (.mp (zyF _ _ _));refine ⟨h1,?_⟩;simp only [List.getElem?_set_ne (fun e=>hne e.symm),hb,h2]
  ·cases h
 ·cases h
theorem zAj (hid:m[id]? =some .dead){o:AOp}{tgt:Option Nat}(ht:tgt≠some id){fr:Frame}(h:zA o tgt fr m=some (v,m')):m'[id]? =some .dead/\zA o tgt fr (m.set id blk)=some (v,m'.set id blk):=by
 have quiet: ∀{r:Option V},(r.map fun v=>(v,m))=some (v,m')->m'[id]? =some .dead/\(r.map fun v=>(v,m.set id blk))=some (v,m'.set id blk):=by
  intro r hr;simp only [Option.map_eq_some_iff] at hr ⊢;obtain ⟨u,hu,e⟩:=hr;cases e;exact ⟨hid,_,hu,rfl⟩
 have new: ∀{x:Blk}{f:Nat->V},((zaI m tgt x).map fun y=>(f y.1,y.2))=some (v,m')->m'[id]? =some .dead/\((zaI (m.set id blk) tgt x).map fun y=>(f y.1,y.2))=some (v,m'.set id blk):=by
  intro x f hr;simp only [Option.map_eq_some_iff] at hr ⊢;obtain ⟨⟨b,m1⟩,hb,e⟩:=hr;cases e;obtain ⟨h1,h2⟩:=zxH (blk:=blk) hid ht hb;exact ⟨h1,_,h2,rfl⟩
 cases o<;>simp only [zA] at h ⊢
 case mv=>cases h;exact ⟨hid,rfl⟩
 case nilck=>split at h<;>cases h;exact ⟨hid,by simp only [*]⟩
 case pick=>split at h<;>cases h;exact ⟨hid,by simp only [*]⟩
 case alloc=>exact new (f:=fun b=> .ptr b 0 0) h
 case box=>
  split at h
  ·rename_i hc;rw [if_pos hc];exact new (f:=fun b=> .ptr b 0 0) h
  ·cases h
 case build=>exact quiet h
 case bslice=>
  simp only [Option.bind_eq_some_iff] at h ⊢;obtain ⟨els,he,h⟩:=h;obtain ⟨h1,h2⟩:=new (f:=fun b=> .slice b 0 _ _ true _) h;exact ⟨h1,els,he,h2⟩
 case load=>
  simp only [Option.map_eq_some_iff] at h ⊢;obtain ⟨u,hu,e⟩:=h;cases e;exact ⟨hid,_,zns hid hu,rfl⟩
 case store=>
  simp only [Option.map_eq_some_iff] at h ⊢;obtain ⟨m1,hm,e⟩:=h;cases e;obtain ⟨h1,h2⟩:=zxG (blk:=blk) hid hm;exact ⟨h1,_,h2,rfl⟩
 case bin=>exact quiet h
 case eq=>exact quiet h
 case ne=>exact quiet h
 case un=>exact quiet h
 case conv=>split at h<;>cases h;exact ⟨hid,by simp only [*]⟩
 case mkfn=>cases h;exact ⟨hid,rfl⟩
 case mkslice=>
  split at h
  ·split at h
   ·rename_i hx hy hc
    simp only [hx,hy,if_pos hc];exact new (f:=fun b=> .slice b 0 _ _ true _) h
   ·cases h
  ·cases h
 case slice=>
  split at h
  ·rename_i hc;rw [if_pos hc];exact quiet h
  ·cases h
 case fieldAddr=>split at h<;>cases h;exact ⟨hid,by simp only [*]⟩
 case field=>
  split at h
  ·exact quiet h
  ·cases h
 case indexAddr=>
  split at h
  ·split at h
   ·rename_i hx hy hc
    cases h;exact ⟨hid,by simp only [hx,hy,if_pos hc]⟩
   ·cases h
  ·cases h
 case indexArr=>
  split at h
  ·split at h
   ·rename_i hx hy hc
    cases h;exact ⟨hid,by simp only [hx,hy,if_pos hc]⟩
   ·cases h
  ·cases h
 case extract=>
  split at h
  ·exact quiet h
  ·cases h
 case len=>split at h<;>cases h<;>exact ⟨hid,by simp only [*]⟩
 case cap=>split at h<;>cases h<;>exact ⟨hid,by simp only [*]⟩
 case appz=>exact zyN hid h
 case mkmap=>
  cases h;obtain ⟨h1,h2⟩:=ze7 (blk:=blk) hid [.mp []];exact ⟨h1,by simp [h2]⟩
 case lookup=>
  simp only [Option.map_eq_some_iff] at h ⊢;obtain ⟨u,hu,e⟩:=h;cases e;exact ⟨hid,_,zAh hid hu,rfl⟩
 case mapset=>
  simp only [Option.map_eq_some_iff] at h ⊢;obtain ⟨m1,hm,e⟩:=h;cases e;obtain ⟨h1,h2⟩:=zAi (blk:=blk) hid hm;exact ⟨h1,_,h2,rfl⟩
 case append=>exact zvo hid h
 case copy=>exact zyM hid h
 case clear=>exact zxI hid h
 case min=>split at h<;>cases h;exact ⟨hid,by simp only [*]⟩
 case max=>split at h<;>cases h;exact ⟨hid,by simp only [*]⟩
 case call=>cases h
end
def zd8 (call:z8):Prop:= ∀f args m v m' id blk,m[id]? =some .dead->call f args m=some (v,m')->m'[id]? =some .dead/\call f args (m.set id blk)=some (v,m'.set id blk)
section
variable {call:z8}{m m':Mem}{id:Nat}{blk:Blk}{v:V}{fr fr':Frame}
theorem zwy (hc:zd8 call) (hid:m[id]? =some .dead){o:AOp}{tgt:Option Nat}(ht:tgt≠some id) (h:step call o tgt fr m=some (v,m')):m'[id]? =some .dead/\step call o tgt fr (m.set id blk)=some (v,m'.set id blk):=by
 cases o
 case call f args=>
  simp only [step] at h ⊢
  split at h
  ·exact hc _ _ _ _ _ id blk hid h
  ·cases h
 all_goals
  simp only [step] at h ⊢;exact zAj hid ht h
theorem zyO (hid:m[id]? =some .dead){l:List (Option (Nat×Bool)×Nat×Option Nat×Arg)}(h:zS l fr m=true):zS l fr (m.set id blk)=true:=by
 simp only [zS,List.all_eq_true] at h ⊢;rintro ⟨g,d,k,a⟩ hx;have:=h _ hx;simp only [Bool.or_eq_true] at this ⊢;rcases this with this|this
 ·exact .inl this
 ·right
  split at this
  ·rename_i u hu
   simp only [zns (blk:=blk) hid hu];exact this
  ·cases this
theorem zwz (hc:zd8 call) (hid:m[id]? =some .dead){base:Nat}{o:zo}(ht: ∀j,o.res=some j->base+j≠id) (h:zez call base o fr m=some (fr',m')):m'[id]? =some .dead/\zez call base o fr (m.set id blk)=some (fr',m'.set id blk):=by
 unfold zez at h ⊢
 split at h
 ·rename_i hw
  rw [if_pos hw]
  split at h
  ·rename_i u m1 hs
   split at h
   ·rename_i hk
    cases h;obtain ⟨h1,h2⟩:=zwy (blk:=blk) hc hid (by
     intro e;cases hr:o.res with
     |none=>rw [hr] at e;cases e
     |some j=>rw [hr] at e;simp at e;exact ht j hr e) hs
    refine ⟨h1,?_⟩;simp only [h2,zyO (blk:=blk) h1 hk,if_true]
   ·cases h
  ·cases h
 ·rename_i hw
  rw [if_neg hw];cases h;exact ⟨hid,rfl⟩
theorem zio (hc:zd8 call){base:Nat}: ∀{l:List zo}{fr:Frame}{m:Mem},m[id]? =some .dead->(∀o∈l,∀j,o.res=some j->base+j≠id)->zI call base l fr m=some (fr',m')->
  m'[id]? =some .dead/\zI call base l fr (m.set id blk)=some (fr',m'.set id blk)
 | [],fr,m,hid,_,h=>by
  simp only [zI,Option.some.injEq,Prod.mk.injEq] at h ⊢;obtain ⟨rfl,rfl⟩:=h;exact ⟨hid,rfl,rfl⟩
 |o::l,fr,m,hid,ht,h=>by
  simp only [zI] at h ⊢
  split at h
  ·rename_i fr1 m1 h1
   obtain ⟨g1,g2⟩:=zwz (blk:=blk) hc hid (ht o (by simp)) h1;simp only [g2];exact zio hc g1 (fun o ho=>ht o (by simp [ho])) h
  ·cases h
end
end Go.AM
namespace Go.AM
open Go
def zgg:zf->Prop
 | .region ops=> ∀o∈ops,o.res=none
 | .seq a b=>zgg a/\zgg b
 | .cond _ a b=>zgg a/\zgg b
 | .block _ c=>zgg c
 | .loop c=>zgg c
 |_=>True
section
variable {call:z8}{id:Nat}{blk:Blk}{e:zaq}{fr':Frame}{m':Mem}
theorem zc5 (hc:zd8 call) (n:Nat): ∀(c:zf),zgg c-> ∀{fr:Frame}{m:Mem}{e:zaq}{fr':Frame}{m':Mem},m[id]? =some .dead->exec call n c fr m=some (e,fr',m')->m'[id]? =some .dead/\exec call n c fr (m.set id blk)=some (e,fr',m'.set id blk)
 | .skip,_,fr,m,e,fr',m',hid,h=>by simp only [exec,Option.some.injEq,Prod.mk.injEq] at h ⊢; obtain ⟨rfl,rfl,rfl⟩:=h;exact ⟨hid,rfl,rfl,rfl⟩
 | .ret,_,fr,m,e,fr',m',hid,h=>by simp only [exec,Option.some.injEq,Prod.mk.injEq] at h ⊢; obtain ⟨rfl,rfl,rfl⟩:=h;exact ⟨hid,rfl,rfl,rfl⟩
 | .exit i,_,fr,m,e,fr',m',hid,h=>by simp only [exec,Option.some.injEq,Prod.mk.injEq] at h ⊢; obtain ⟨rfl,rfl,rfl⟩:=h;exact ⟨hid,rfl,rfl,rfl⟩
 | .region ops,hp,fr,m,e,fr',m',hid,h=>by
  simp only [exec,Option.map_eq_some_iff] at h ⊢;obtain ⟨⟨f1,m1⟩,h1,e'⟩:=h;cases e';obtain ⟨g1,g2⟩:=zio (blk:=blk) hc hid (fun o ho j hj=>by rw [hp o ho] at hj;cases hj) h1;exact ⟨g1,(f1,m1.set id blk),g2,rfl⟩
 | .draw k ops,_,fr,m,e,fr',m',hid,h=>by
  simp only [exec,Option.map_eq_some_iff] at h ⊢;obtain ⟨⟨f1,m1⟩,h1,e'⟩:=h;cases e';have hl:id<m.length:=(List.getElem?_eq_some_iff.1 hid).1;obtain ⟨k1,k2⟩:=ze7 (blk:=blk) hid (List.replicate k Blk.dead);obtain ⟨g1,g2⟩:=zio (blk:=blk) hc k1 (fun o _ j _=>by omega) h1;refine ⟨g1,(f1,m1.set id blk),?_,rfl⟩;rw [List.length_set,k2];exact g2
 | .seq a b,hp,fr,m,e,fr',m',hid,h=>by
  simp only [exec] at h ⊢
  split at h
  ·rename_i f1 m1 h1
   obtain ⟨g1,g2⟩:=zc5 hc n a hp.1 hid h1;simp only [g2];exact zc5 hc n b hp.2 g1 h
  ·rename_i hne
   obtain ⟨g1,g2⟩:=zc5 hc n a hp.1 hid h;refine ⟨g1,?_⟩;rw [g2]
   split
   ·rename_i f1 m1 h1
    cases h1;exact absurd h (fun h=>hne _ _ h)
   ·rfl
 | .cond c a b,hp,fr,m,e,fr',m',hid,h=>by
  simp only [exec] at h ⊢
  split at h
  ·exact zc5 hc n a hp.1 hid h
  ·exact zc5 hc n b hp.2 hid h
  ·cases h
 | .block i c,hp,fr,m,e,fr',m',hid,h=>by
  simp only [exec] at h ⊢
  split at h
  ·rename_i i' f1 m1 h1
   obtain ⟨g1,g2⟩:=zc5 hc n c hp hid h1;simp only [g2]
   split at h
   ·rename_i hi
    cases h;exact ⟨g1,by rw [if_pos hi]⟩
   ·rename_i hi
    cases h;exact ⟨g1,by rw [if_neg hi]⟩
  ·rename_i hne
   obtain ⟨g1,g2⟩:=zc5 hc n c hp hid h;refine ⟨g1,?_⟩;rw [g2]
   split
   ·rename_i i' f1 m1 h1
    cases h1;exact absurd h (fun h=>hne _ _ _ h)
   ·rfl
 | .loop c,hp,fr,m,e,fr',m',hid,h=>by
  simp only [exec] at h ⊢;have key: ∀(k:Nat){fr:Frame}{m:Mem},m[id]? =some .dead->iter (exec call n c) k fr m=some (e,fr',m')->m'[id]? =some .dead/\iter (exec call n c) k fr (m.set id blk)=some (e,fr',m'.set id blk):=by
   intro k
   induction k with
   |zero=>intro fr m _ h;simp [iter] at h
   |succ k ih=>
    intro fr m hid h;simp only [iter] at h ⊢
    split at h
    ·rename_i f1 m1 h1
     obtain ⟨g1,g2⟩:=zc5 hc n c hp hid h1;simp only [g2];exact ih g1 h
    ·rename_i hne
     obtain ⟨g1,g2⟩:=zc5 hc n c hp hid h;refine ⟨g1,?_⟩;rw [g2]
     split
     ·rename_i f1 m1 h1
      cases h1;exact absurd h (fun h=>hne _ _ h)
     ·rfl
  exact key n hid h
end
section
variable {call:z8}{id:Nat}{blk:Blk}{e:zaq}{fr':Frame}{m':Mem}
theorem zlM {l:List RV}{fr:Frame}{m:Mem}{v:V}(hid:m[id]? =some .dead) (h:zbq l fr m=some v):zbq l fr (m.set id blk)=some v:=by
 simp only [zbq,Option.map_eq_some_iff] at h ⊢;obtain ⟨vs,hvs,e⟩:=h;refine ⟨vs,?_,e⟩;clear e
 induction l generalizing vs with
 |nil=>simpa using hvs
 |cons r l ih=>
  simp only [List.mapM_cons,Option.pure_def,Option.bind_eq_bind,Option.bind_eq_some_iff] at hvs ⊢;obtain ⟨u,hu,us,hus,e⟩:=hvs;refine ⟨u,?_,us,ih us hus,e⟩;cases r with
  |t i=>exact hu
  |cell a k=>exact zns hid hu
end
theorem zto {P:Program}{N:Nat}{ops:Array Oper}: ∀{l:List Oper}{al:List zo},l.mapM (zeB P N ops)=some al-> ∀o∈al,o.res=none
 | [],al,h,o,ho=>by simp at h;subst h;simp at ho
 |x::l,al,h,o,ho=>by
  simp only [List.mapM_cons,Option.pure_def,Option.bind_eq_bind,Option.bind_eq_some_iff] at h;obtain ⟨a,ha,as,has,e⟩:=h;cases e;rcases List.mem_cons.1 ho with rfl|ho
  ·exact (ziP ha).2.2.2.2
  ·exact zto has o ho
theorem zaA {P:Program}{N:Nat}: ∀(c:Code){ac:zf},zD P N c=some ac->zgg ac
 | .skip,ac,h=>by simp only [zD,Option.some.injEq] at h;subst h;trivial
 | .ret,ac,h=>by simp only [zD,Option.some.injEq] at h;subst h;trivial
 | .exit id,ac,h=>by simp only [zD,Option.some.injEq] at h;subst h;trivial
 | .region id ops draw,ac,h=>by
  simp only [zD] at h
  split at h
  ·simp only [Option.map_eq_some_iff] at h
   obtain ⟨⟨k,l⟩,_,rfl⟩:=h;trivial
  ·split at h
   ·rename_i l hl
    cases h;exact zto hl
   ·cases h
    trivial
 | .seq a b,ac,h=>by
  simp only [zD,Option.bind_eq_bind,Option.bind_eq_some_iff,Option.pure_def,Option.some.injEq] at h;obtain ⟨a',ha,b',hb,rfl⟩:=h;exact ⟨zaA a ha,zaA b hb⟩
 | .cond c a b,ac,h=>by
  simp only [zD,Option.bind_eq_bind,Option.bind_eq_some_iff,Option.pure_def,Option.some.injEq] at h;obtain ⟨c',_,a',ha,b',hb,rfl⟩:=h;exact ⟨zaA a ha,zaA b hb⟩
 | .block id c,ac,h=>by
  simp only [zD,Option.bind_eq_bind,Option.bind_eq_some_iff,Option.pure_def,Option.some.injEq] at h;obtain ⟨c',hc,rfl⟩:=h;have:=zaA c hc;exact this
 | .loop c,ac,h=>by
  simp only [zD,Option.bind_eq_bind,Option.bind_eq_some_iff,Option.pure_def,Option.some.injEq] at h;obtain ⟨c',hc,rfl⟩:=h;have:=zaA c hc;exact this
 | .rangeFunc _ _ _ _,ac,h=>by simp [zD] at h
 | .scope c,ac,h=>by
  simp only [zD] at h;exact zaA c h
 | .label _,ac,h=>by simp only [zD,Option.some.injEq] at h;subst h;trivial
 | .goto _,ac,h=>by simp [zD] at h
 | .refuse _,ac,h=>by simp [zD] at h
def znt (X:Told):Prop:= ∀f t,X f=some t-> ∀call,zd8 call-> ∀args m v m' id blk,m[id]? =some .dead->t call args m=some (v,m')->m'[id]? =some .dead/\t call args (m.set id blk)=some (v,m'.set id blk)
theorem znu {P:Program}{F:Nat->Option ze}{X:Told}(hF:ziv P F) (hX:znt X): ∀n,zd8 (callN F X n)
 |0=>fun f args m v m' id blk hid h=>by simp [callN] at h
 |n+1=>fun f args m v m' id blk hid h=>by
  have ih:=znu hF hX n;simp only [callN] at h ⊢
  split at h
  ·rename_i t ht
   exact hX f t ht _ ih args m v m' id blk hid h
  split at h
  ·cases h
  rename_i fn hfn
  have hpl:zgg fn.body:=by
   obtain ⟨g,hg,hcomp⟩:=hF f fn hfn;simp only [zfO,Option.bind_eq_bind,Option.bind_eq_some_iff,Option.pure_def] at hcomp;obtain ⟨c,hc,hcomp⟩:=hcomp
   split at hcomp
   ·cases hcomp
   split at hcomp
   ·cases hcomp
   simp only [Option.bind_eq_some_iff,Option.some.injEq] at hcomp;obtain ⟨ac,hac,rl,hrl,rfl⟩:=hcomp;exact zaA c hac
  split at h
  case isFalse=>cases h
  rename_i hlen
  rw [if_pos hlen]
  split at h
  ·rename_i f1 m1 h1
   simp only [Option.map_eq_some_iff] at h;obtain ⟨u,hu,e⟩:=h;cases e;obtain ⟨g1,g2⟩:=zc5 (blk:=blk) ih n fn.body hpl hid h1;simp only [g2];exact ⟨g1,by rw [zlM g1 hu];rfl⟩
  ·rename_i f1 m1 h1
   simp only [Option.map_eq_some_iff] at h;obtain ⟨u,hu,e⟩:=h;cases e;obtain ⟨g1,g2⟩:=zc5 (blk:=blk) ih n fn.body hpl hid h1;simp only [g2];exact ⟨g1,by rw [zlM g1 hu];rfl⟩
  ·cases h
variable [HasLay]
section
variable {call:z8}{id:Nat}{blk:Blk}{e:zaq}{fr':Frame}{m':Mem}
end
end Go.AM
