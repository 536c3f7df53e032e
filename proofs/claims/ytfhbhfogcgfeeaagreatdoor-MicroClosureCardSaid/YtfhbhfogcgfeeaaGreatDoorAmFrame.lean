import Derived.Test.YtfhbhfogcgfeeaaGreatDoorAmSound
set_option linter.unusedVariables false
set_option linter.unusedSimpArgs false
namespace Go.AM
open Go
section
variable {m m':Mem}{id b:Nat}{blk:Blk}{v:V}
theorem zjc (hid:m[id]? =some .dead){own:Bool}{els:List (List V)}(hb:m[b]? =some (.cells own els)):b≠id/\(m.set id blk)[b]? =some (.cells own els):=by
 have h:b≠id:=fun e=>by subst e;rw [hid] at hb;cases hb
 exact ⟨h,by rw [List.getElem?_set_ne (fun e=>h e.symm)];exact hb⟩
theorem zjd (hid:m[id]? =some .dead) (h:b≠id) (x:Blk):(m.set b x)[id]? =some .dead/\(m.set id blk).set b x=(m.set b x).set id blk:=
 ⟨by rw [List.getElem?_set_ne h];exact hid,List.set_comm _ _ (fun e=>h e.symm)⟩
theorem zfk (hid:m[id]? =some .dead) (x:List Blk):(m++x)[id]? =some .dead/\(m.set id blk)++x=(m++x).set id blk:=by
 have hl:id<m.length:=(List.getElem?_eq_some_iff.1 hid).1;exact ⟨by rw [List.getElem?_append_left hl];exact hid,(List.set_append_left _ _ hl).symm⟩
theorem zmw (hid:m[id]? =some .dead){k:Option Nat}{a:V}(h:zaq m k a=some v):zaq (m.set id blk) k a=some v:=by
 unfold zaq at h ⊢
 split at h
 ·split at h
  ·rename_i hb
   simp only [(zjc (blk:=blk) hid hb).2];exact h
  ·cases h
 ·cases h
theorem zjO (hid:m[id]? =some .dead){x:V}{ys:List (List V)}(h:elems m x=some ys):elems (m.set id blk) x=some ys:=by
 unfold elems at h ⊢
 split at h
 ·exact h
 ·split at h
  ·rename_i hb
   simp only [(zjc (blk:=blk) hid hb).2];exact h
  ·cases h
 ·cases h
theorem zuI (hid:m[id]? =some .dead){x:V}{ys:List (List V)}(h:zde m x=some ys):zde (m.set id blk) x=some ys:=by
 cases x<;>first|exact h|exact zf4 (zjO (blk:=blk) hid h)
theorem zuJ (hid:m[id]? =some .dead){n:Nat}{a x:V}(h:zbi m n a x=some m'):m'[id]? =some .dead/\zbi (m.set id blk) n a x=some (m'.set id blk):=by
 unfold zbi at h ⊢
 split at h
 ·split at h
  ·rename_i hb
   obtain ⟨h1,h2⟩:=zjc (blk:=blk) hid hb;simp only [h2]
   split at h
   ·split at h
    ·rename_i hc
     cases h;obtain ⟨h3,h4⟩:=zjd (blk:=blk) hid h1 (.cells true _);refine ⟨h3,?_⟩;rw [if_pos hc,h4]
    ·cases h
   ·cases h
  ·cases h
 ·cases h
theorem zuK (hid:m[id]? =some .dead){tgt:Option Nat}(ht:tgt≠some id){x:Blk}(h:zaE m tgt x=some (b,m')):m'[id]? =some .dead/\zaE (m.set id blk) tgt x=some (b,m'.set id blk):=by
 cases tgt with
 |none=>
  simp only [zaE,Option.some.injEq,Prod.mk.injEq] at h ⊢;obtain ⟨rfl,rfl⟩:=h;obtain ⟨h1,h2⟩:=zfk (blk:=blk) hid [x];exact ⟨h1,by simp,h2⟩
 |some i=>
  have hne:i≠id:=fun e=>ht (by rw [e])
  simp only [zaE] at h ⊢
  split at h
  ·rename_i hd
   simp only [Option.some.injEq,Prod.mk.injEq] at h;obtain ⟨rfl,rfl⟩:=h;obtain ⟨h1,h2⟩:=zjd (blk:=blk) hid hne x;refine ⟨h1,?_⟩;rw [List.getElem?_set_ne (fun e=>hne e.symm),hd];simp [h2]
  ·cases h
theorem zsu (hid:m[id]? =some .dead){z:List V}{by_:Nat}{x y:V}(h:zM m z by_ x y=some (v,m')):m'[id]? =some .dead/\zM (m.set id blk) z by_ x y=some (v,m'.set id blk):=by
 have hl:(m.set id blk).length=m.length:=List.length_set;unfold zM at h ⊢
 split at h
 ·cases h
 rename_i ys hys
 simp only [zuI (blk:=blk) hid hys]
 split at h
 ·cases h
 rename_i hz
 rw [if_neg hz]
 split at h
 ·split at h
  ·rename_i he
   cases h;exact ⟨hid,by simp only [if_pos he]⟩
  ·rename_i he
   simp only [if_neg he]
   split at h
   ·rename_i hr
    cases h;obtain ⟨h1,h2⟩:=zfk (blk:=blk) hid [.cells true ys];exact ⟨h1,by simp only [if_pos hr,hl,h2]⟩
   ·cases h
 ·split at h
  ·cases h
  rename_i hzz
  simp only [if_neg hzz]
  split at h
  ·rename_i he
   cases h;exact ⟨hid,by simp only [if_pos he]⟩
  rename_i he
  simp only [if_neg he]
  split at h
  ·rename_i own els hb
   obtain ⟨h1,h2⟩:=zjc (blk:=blk) hid hb;simp only [h2]
   split at h
   ·rename_i hin
    simp only [if_pos hin]
    split at h
    ·rename_i hr
     simp only [if_pos hr]
     split at h
     ·rename_i ho
      cases h;obtain ⟨h3,h4⟩:=zjd (blk:=blk) hid h1 (.cells true _);exact ⟨h3,by simp only [if_pos ho,h4]⟩
     ·cases h
    ·rename_i hr
     simp only [if_neg hr]
     split at h
     ·rename_i hro
      simp only [if_pos hro]
      split at h
      ·rename_i hx
       cases h;obtain ⟨h3,h4⟩:=zfk (blk:=blk) hid [.cells true _];exact ⟨h3,by simp only [if_pos hx,hl,h4]⟩
      ·rename_i hx
       simp only [if_neg hx]
       split at h
       ·rename_i ho
        cases h;obtain ⟨h3,h4⟩:=zjd (blk:=blk) hid h1 .dead;obtain ⟨h5,h6⟩:=zfk (blk:=blk) h3 [.cells true _];exact ⟨h5,by simp only [if_pos ho,hl,h4,h6]⟩
       ·cases h
     ·cases h
   ·cases h
  ·cases h
 ·cases h
theorem zvR (hid:m[id]? =some .dead){z:Nat}{x y:V}(h:copyV m z x y=some (v,m')):m'[id]? =some .dead/\copyV (m.set id blk) z x y=some (v,m'.set id blk):=by
 unfold copyV at h ⊢
 split at h
 ·rename_i xs ys hxs hys
  simp only [zjO (blk:=blk) hid hxs,zjO (blk:=blk) hid hys];simp only at h
  split at h
  ·split at h
   ·cases h
   rename_i hz
   rw [if_neg hz]
   split at h
   ·rename_i hb
    obtain ⟨h1,h2⟩:=zjc (blk:=blk) hid hb;simp only [h2];cases h;obtain ⟨h3,h4⟩:=zjd (blk:=blk) hid h1 (.cells true _);exact ⟨h3,by rw [h4]⟩
   ·cases h
  ·cases h
   exact ⟨hid,rfl⟩
 ·cases h
theorem zuL (hid:m[id]? =some .dead){z:List V}{x:V}(h:zfM m z x=some (v,m')):m'[id]? =some .dead/\zfM (m.set id blk) z x=some (v,m'.set id blk):=by
 unfold zfM at h ⊢
 split at h
 ·cases h
  exact ⟨hid,rfl⟩
 ·split at h
  ·cases h
  rename_i hz
  rw [if_neg hz]
  split at h
  ·rename_i hb
   obtain ⟨h1,h2⟩:=zjc (blk:=blk) hid hb;simp only [h2]
   split at h
   ·rename_i hin
    rw [if_pos hin];cases h;obtain ⟨h3,h4⟩:=zjd (blk:=blk) hid h1 (.cells true _);exact ⟨h3,by rw [h4]⟩
   ·cases h
  ·cases h
 ·cases h
theorem zvS (hid:m[id]? =some .dead){z:List V}{by_:Nat}{x y:V}(h:zlc m z by_ x y=some (v,m')):m'[id]? =some .dead/\zlc (m.set id blk) z by_ x y=some (v,m'.set id blk):=by
 have hl:(m.set id blk).length=m.length:=List.length_set;unfold zlc at h ⊢
 split at h
 ·split at h
  ·rename_i hc
   cases h;obtain ⟨h1,h2⟩:=zfk (blk:=blk) hid [.cells true _];exact ⟨h1,by simp only [if_pos hc,hl,h2]⟩
  ·cases h
 ·cases h
theorem zpL (hid:m[id]? =some .dead){x:V}{es:List (Int×Int)}(h:zn3 m x=some es):zn3 (m.set id blk) x=some es:=by
 unfold zn3 at h ⊢
 split at h
 ·exact h
 ·rename_i b
  split at h
  ·rename_i hb
   have hne:b≠id:=fun e=>by subst e;rw [hid] at hb;cases hb
   simp only [List.getElem?_set_ne (fun e=>hne e.symm),hb];exact h
  ·cases h
 ·cases h
theorem zxu (hid:m[id]? =some .dead){x k u:V}(h:zqM m x k=some u):zqM (m.set id blk) x k=some u:=by
 unfold zqM at h ⊢
 split at h
 ·simp only [Option.map_eq_some_iff] at h ⊢
  obtain ⟨es,he,e⟩:=h;exact ⟨es,zpL hid he,e⟩
 ·cases h
theorem zvT (hid:m[id]? =some .dead){x k u:V}(h:zqN m x k=some u):zqN (m.set id blk) x k=some u:=by
 unfold zqN at h ⊢
 split at h
 ·simp only [Option.map_eq_some_iff] at h ⊢
  obtain ⟨es,he,e⟩:=h;exact ⟨es,zpL hid he,e⟩
 ·cases h
theorem zxv (hid:m[id]? =some .dead){x u:V}(h:zvL m x=some u):zvL (m.set id blk) x=some u:=by
 unfold zvL at h ⊢;simp only [Option.map_eq_some_iff] at h ⊢;obtain ⟨es,he,e⟩:=h;exact ⟨es,zpL hid he,e⟩
theorem zxw (hid:m[id]? =some .dead){x k u:V}(h:zqO m x k u=some m'):m'[id]? =some .dead/\zqO (m.set id blk) x k u=some (m'.set id blk):=by
 unfold zqO at h ⊢
 split at h
 ·rename_i b _ _
  split at h
  ·rename_i hb
   have hne:b≠id:=fun e=>by subst e;rw [hid] at hb;cases hb
   cases h;obtain ⟨h1,h2⟩:=zjd (blk:=blk) hid hne (.mp (zhu _ _ _));refine ⟨h1,?_⟩;simp only [List.getElem?_set_ne (fun e=>hne e.symm),hb,h2]
  ·cases h
 ·cases h
theorem zxx (hid:m[id]? =some .dead){o:AOp}{tgt:Option Nat}(ht:tgt≠some id){fr:Frame}(h:zu o tgt fr m=some (v,m')):m'[id]? =some .dead/\zu o tgt fr (m.set id blk)=some (v,m'.set id blk):=by
 have quiet: ∀{r:Option V},(r.map fun v=>(v,m))=some (v,m')->m'[id]? =some .dead/\(r.map fun v=>(v,m.set id blk))=some (v,m'.set id blk):=by
  intro r hr;simp only [Option.map_eq_some_iff] at hr ⊢;obtain ⟨u,hu,e⟩:=hr;cases e;exact ⟨hid,_,hu,rfl⟩
 have new: ∀{x:Blk}{f:Nat->V},((zaE m tgt x).map fun y=>(f y.1,y.2))=some (v,m')->m'[id]? =some .dead/\((zaE (m.set id blk) tgt x).map fun y=>(f y.1,y.2))=some (v,m'.set id blk):=by
  intro x f hr;simp only [Option.map_eq_some_iff] at hr ⊢;obtain ⟨⟨b,m1⟩,hb,e⟩:=hr;cases e;obtain ⟨h1,h2⟩:=zuK (blk:=blk) hid ht hb;exact ⟨h1,_,h2,rfl⟩
 cases o<;>simp only [zu] at h ⊢
 case mv=>cases h;exact ⟨hid,rfl⟩
 case nilck=>split at h<;>cases h;exact ⟨hid,by simp only [*]⟩
 case pick=>split at h<;>cases h;exact ⟨hid,by simp only [*]⟩
 case alloc=>exact new (f:=fun b=> .ptr b 0 0) h
 case box=>
  split at h
  ·rename_i hc;rw [if_pos hc];exact new (f:=fun b=> .ptr b 0 0) h
  ·cases h
 case build=>exact quiet h
 case bslice=>
  simp only [Option.bind_eq_some_iff] at h ⊢;obtain ⟨els,he,h⟩:=h;obtain ⟨h1,h2⟩:=new (f:=fun b=> .slice b 0 _ _ true _) h;exact ⟨h1,els,he,h2⟩
 case load=>
  simp only [Option.map_eq_some_iff] at h ⊢;obtain ⟨u,hu,e⟩:=h;cases e;exact ⟨hid,_,zmw hid hu,rfl⟩
 case store=>
  simp only [Option.map_eq_some_iff] at h ⊢;obtain ⟨m1,hm,e⟩:=h;cases e;obtain ⟨h1,h2⟩:=zuJ (blk:=blk) hid hm;exact ⟨h1,_,h2,rfl⟩
 case bin=>exact quiet h
 case eq=>exact quiet h
 case ne=>exact quiet h
 case un=>exact quiet h
 case conv=>split at h<;>cases h;exact ⟨hid,by simp only [*]⟩
 case mkfn=>cases h;exact ⟨hid,rfl⟩
 case mkslice=>
  split at h
  ·split at h
   ·rename_i hx hy hc
    simp only [hx,hy,if_pos hc];exact new (f:=fun b=> .slice b 0 _ _ true _) h
   ·cases h
  ·cases h
 case slice=>
  split at h
  ·rename_i hc;rw [if_pos hc];exact quiet h
  ·cases h
 case fieldAddr=>split at h<;>cases h;exact ⟨hid,by simp only [*]⟩
 case field=>
  split at h
  ·exact quiet h
  ·cases h
 case indexAddr=>
  split at h
  ·split at h
   ·rename_i hx hy hc
    cases h;exact ⟨hid,by simp only [hx,hy,if_pos hc]⟩
   ·cases h
  ·cases h
 case indexArr=>
  split at h
  ·split at h
   ·rename_i hx hy hc
    cases h;exact ⟨hid,by simp only [hx,hy,if_pos hc]⟩
   ·cases h
  ·cases h
 case extract=>
  split at h
  ·exact quiet h
  ·cases h
 case len=>split at h<;>cases h<;>exact ⟨hid,by simp only [*]⟩
 case cap=>split at h<;>cases h<;>exact ⟨hid,by simp only [*]⟩
 case appz=>exact zvS hid h
 case mkmap=>
  cases h;obtain ⟨h1,h2⟩:=zfk (blk:=blk) hid [.mp []];exact ⟨h1,by simp [h2]⟩
 case lookup=>
  simp only [Option.map_eq_some_iff] at h ⊢;obtain ⟨u,hu,e⟩:=h;cases e;exact ⟨hid,_,zxu hid hu,rfl⟩
 case lookup2=>
  simp only [Option.map_eq_some_iff] at h ⊢;obtain ⟨u,hu,e⟩:=h;cases e;exact ⟨hid,_,zvT hid hu,rfl⟩
 case mlen=>
  simp only [Option.map_eq_some_iff] at h ⊢;obtain ⟨u,hu,e⟩:=h;cases e;exact ⟨hid,_,zxv hid hu,rfl⟩
 case mapset=>
  simp only [Option.map_eq_some_iff] at h ⊢;obtain ⟨m1,hm,e⟩:=h;cases e;obtain ⟨h1,h2⟩:=zxw (blk:=blk) hid hm;exact ⟨h1,_,h2,rfl⟩
 case append=>exact zsu hid h
 case copy=>exact zvR hid h
 case clear=>exact zuL hid h
 case min=>split at h<;>cases h;exact ⟨hid,by simp only [*]⟩
 case max=>split at h<;>cases h;exact ⟨hid,by simp only [*]⟩
 case call=>cases h
end
def zek (call:zS):Prop:= ∀f args m v m' id blk,m[id]? =some .dead->call f args m=some (v,m')->m'[id]? =some .dead/\call f args (m.set id blk)=some (v,m'.set id blk)
section
variable {call:zS}{m m':Mem}{id:Nat}{blk:Blk}{v:V}{fr fr':Frame}
theorem ztA (hc:zek call) (hid:m[id]? =some .dead){o:AOp}{tgt:Option Nat}(ht:tgt≠some id) (h:step call o tgt fr m=some (v,m')):m'[id]? =some .dead/\step call o tgt fr (m.set id blk)=some (v,m'.set id blk):=by
 cases o
 case call f args=>
  simp only [step] at h ⊢
  split at h
  ·exact hc _ _ _ _ _ id blk hid h
  ·cases h
 all_goals
  simp only [step] at h ⊢;exact zxx hid ht h
theorem zvU (hid:m[id]? =some .dead){l:List (Option (Nat×Bool)×Nat×Option Nat×Arg)}(h:zO l fr m=true):zO l fr (m.set id blk)=true:=by
 simp only [zO,List.all_eq_true] at h ⊢;rintro ⟨g,d,k,a⟩ hx;have:=h _ hx;simp only [Bool.or_eq_true] at this ⊢;rcases this with this|this
 ·exact .inl this
 ·right
  split at this
  ·rename_i u hu
   simp only [zmw (blk:=blk) hid hu];exact this
  ·cases this
theorem ztB (hc:zek call) (hid:m[id]? =some .dead){base:Nat}{o:zo}(ht: ∀j,o.res=some j->base+j≠id) (h:zeL call base o fr m=some (fr',m')):m'[id]? =some .dead/\zeL call base o fr (m.set id blk)=some (fr',m'.set id blk):=by
 unfold zeL at h ⊢
 split at h
 ·rename_i hw
  rw [if_pos hw]
  split at h
  ·rename_i u m1 hs
   split at h
   ·rename_i hk
    cases h;obtain ⟨h1,h2⟩:=ztA (blk:=blk) hc hid (by
     intro e;cases hr:o.res with
     |none=>rw [hr] at e;cases e
     |some j=>rw [hr] at e;simp at e;exact ht j hr e) hs
    refine ⟨h1,?_⟩;simp only [h2,zvU (blk:=blk) h1 hk,if_true]
   ·cases h
  ·cases h
 ·rename_i hw
  rw [if_neg hw];cases h;exact ⟨hid,rfl⟩
theorem zin (hc:zek call){base:Nat}: ∀{l:List zo}{fr:Frame}{m:Mem},m[id]? =some .dead->(∀o∈l,∀j,o.res=some j->base+j≠id)->zC call base l fr m=some (fr',m')->
  m'[id]? =some .dead/\zC call base l fr (m.set id blk)=some (fr',m'.set id blk)
 | [],fr,m,hid,_,h=>by
  simp only [zC,Option.some.injEq,Prod.mk.injEq] at h ⊢;obtain ⟨rfl,rfl⟩:=h;exact ⟨hid,rfl,rfl⟩
 |o::l,fr,m,hid,ht,h=>by
  simp only [zC] at h ⊢
  split at h
  ·rename_i fr1 m1 h1
   obtain ⟨g1,g2⟩:=ztB (blk:=blk) hc hid (ht o (by simp)) h1;simp only [g2];exact zin hc g1 (fun o ho=>ht o (by simp [ho])) h
  ·cases h
end
end Go.AM
namespace Go.AM
open Go
def zgA:zf->Prop
 | .region ops=> ∀o∈ops,o.res=none
 | .seq a b=>zgA a/\zgA b
 | .cond _ a b=>zgA a/\zgA b
 | .block _ c=>zgA c
 | .loop c=>zgA c
 |_=>True
section
variable {call:zS}{id:Nat}{blk:Blk}{e:zar}{fr':Frame}{m':Mem}
theorem zdg (hc:zek call) (n:Nat): ∀(c:zf),zgA c-> ∀{fr:Frame}{m:Mem}{e:zar}{fr':Frame}{m':Mem},m[id]? =some .dead->exec call n c fr m=some (e,fr',m')->m'[id]? =some .dead/\exec call n c fr (m.set id blk)=some (e,fr',m'.set id blk)
 | .skip,_,fr,m,e,fr',m',hid,h=>by simp only [exec,Option.some.injEq,Prod.mk.injEq] at h ⊢; obtain ⟨rfl,rfl,rfl⟩:=h;exact ⟨hid,rfl,rfl,rfl⟩
 | .ret,_,fr,m,e,fr',m',hid,h=>by simp only [exec,Option.some.injEq,Prod.mk.injEq] at h ⊢; obtain ⟨rfl,rfl,rfl⟩:=h;exact ⟨hid,rfl,rfl,rfl⟩
 | .exit i,_,fr,m,e,fr',m',hid,h=>by simp only [exec,Option.some.injEq,Prod.mk.injEq] at h ⊢; obtain ⟨rfl,rfl,rfl⟩:=h;exact ⟨hid,rfl,rfl,rfl⟩
 | .region ops,hp,fr,m,e,fr',m',hid,h=>by
  simp only [exec,Option.map_eq_some_iff] at h ⊢;obtain ⟨⟨f1,m1⟩,h1,e'⟩:=h;cases e';obtain ⟨g1,g2⟩:=zin (blk:=blk) hc hid (fun o ho j hj=>by rw [hp o ho] at hj;cases hj) h1;exact ⟨g1,(f1,m1.set id blk),g2,rfl⟩
 | .draw k ops,_,fr,m,e,fr',m',hid,h=>by
  simp only [exec,Option.map_eq_some_iff] at h ⊢;obtain ⟨⟨f1,m1⟩,h1,e'⟩:=h;cases e';have hl:id<m.length:=(List.getElem?_eq_some_iff.1 hid).1;obtain ⟨k1,k2⟩:=zfk (blk:=blk) hid (List.replicate k Blk.dead);obtain ⟨g1,g2⟩:=zin (blk:=blk) hc k1 (fun o _ j _=>by omega) h1;refine ⟨g1,(f1,m1.set id blk),?_,rfl⟩;rw [List.length_set,k2];exact g2
 | .seq a b,hp,fr,m,e,fr',m',hid,h=>by
  simp only [exec] at h ⊢
  split at h
  ·rename_i f1 m1 h1
   obtain ⟨g1,g2⟩:=zdg hc n a hp.1 hid h1;simp only [g2];exact zdg hc n b hp.2 g1 h
  ·rename_i hne
   obtain ⟨g1,g2⟩:=zdg hc n a hp.1 hid h;refine ⟨g1,?_⟩;rw [g2]
   split
   ·rename_i f1 m1 h1
    cases h1;exact absurd h (fun h=>hne _ _ h)
   ·rfl
 | .cond c a b,hp,fr,m,e,fr',m',hid,h=>by
  simp only [exec] at h ⊢
  split at h
  ·exact zdg hc n a hp.1 hid h
  ·exact zdg hc n b hp.2 hid h
  ·cases h
 | .block i c,hp,fr,m,e,fr',m',hid,h=>by
  simp only [exec] at h ⊢
  split at h
  ·rename_i i' f1 m1 h1
   obtain ⟨g1,g2⟩:=zdg hc n c hp hid h1;simp only [g2]
   split at h
   ·rename_i hi
    cases h;exact ⟨g1,by rw [if_pos hi]⟩
   ·rename_i hi
    cases h;exact ⟨g1,by rw [if_neg hi]⟩
  ·rename_i hne
   obtain ⟨g1,g2⟩:=zdg hc n c hp hid h;refine ⟨g1,?_⟩;rw [g2]
   split
   ·rename_i i' f1 m1 h1
    cases h1;exact absurd h (fun h=>hne _ _ _ h)
   ·rfl
 | .loop c,hp,fr,m,e,fr',m',hid,h=>by
  simp only [exec] at h ⊢;have key: ∀(k:Nat){fr:Frame}{m:Mem},m[id]? =some .dead->iter (exec call n c) k fr m=some (e,fr',m')->m'[id]? =some .dead/\iter (exec call n c) k fr (m.set id blk)=some (e,fr',m'.set id blk):=by
   intro k
   induction k with
   |zero=>intro fr m _ h;simp [iter] at h
   |succ k ih=>
    intro fr m hid h;simp only [iter] at h ⊢
    split at h
    ·rename_i f1 m1 h1
     obtain ⟨g1,g2⟩:=zdg hc n c hp hid h1;simp only [g2];exact ih g1 h
    ·rename_i hne
     obtain ⟨g1,g2⟩:=zdg hc n c hp hid h;refine ⟨g1,?_⟩;rw [g2]
     split
     ·rename_i f1 m1 h1
      cases h1;exact absurd h (fun h=>hne _ _ h)
     ·rfl
  exact key n hid h
end
section
variable {call:zS}{id:Nat}{blk:Blk}{e:zar}{fr':Frame}{m':Mem}
theorem zle {l:List RV}{fr:Frame}{m:Mem}{v:V}(hid:m[id]? =some .dead) (h:zbn l fr m=some v):zbn l fr (m.set id blk)=some v:=by
 simp only [zbn,Option.map_eq_some_iff] at h ⊢;obtain ⟨vs,hvs,e⟩:=h;refine ⟨vs,?_,e⟩;clear e
 induction l generalizing vs with
 |nil=>simpa using hvs
 |cons r l ih=>
  simp only [List.mapM_cons,Option.pure_def,Option.bind_eq_bind,Option.bind_eq_some_iff] at hvs ⊢;obtain ⟨u,hu,us,hus,e⟩:=hvs;refine ⟨u,?_,us,ih us hus,e⟩;cases r with
  |t i=>exact hu
  |cell a k=>exact zmw hid hu
end
theorem zqT {P:Program}{N:Nat}{ops:Array Oper}: ∀{l:List Oper}{al:List zo},l.mapM (zeN P N ops)=some al-> ∀o∈al,o.res=none
 | [],al,h,o,ho=>by simp at h;subst h;simp at ho
 |x::l,al,h,o,ho=>by
  simp only [List.mapM_cons,Option.pure_def,Option.bind_eq_bind,Option.bind_eq_some_iff] at h;obtain ⟨a,ha,as,has,e⟩:=h;cases e;rcases List.mem_cons.1 ho with rfl|ho
  ·exact (ziR ha).2.2.2.2
  ·exact zqT has o ho
theorem zaw {P:Program}{N:Nat}: ∀(c:Code){ac:zf},zz P N c=some ac->zgA ac
 | .skip,ac,h=>by simp only [zz,Option.some.injEq] at h;subst h;trivial
 | .ret,ac,h=>by simp only [zz,Option.some.injEq] at h;subst h;trivial
 | .exit id,ac,h=>by simp only [zz,Option.some.injEq] at h;subst h;trivial
 | .region id ops draw,ac,h=>by
  simp only [zz] at h
  split at h
  ·simp only [Option.map_eq_some_iff] at h
   obtain ⟨⟨k,l⟩,_,rfl⟩:=h;trivial
  ·split at h
   ·rename_i l hl
    cases h;exact zqT hl
   ·cases h
    trivial
 | .seq a b,ac,h=>by
  simp only [zz,Option.bind_eq_bind,Option.bind_eq_some_iff,Option.pure_def,Option.some.injEq] at h;obtain ⟨a',ha,b',hb,rfl⟩:=h;exact ⟨zaw a ha,zaw b hb⟩
 | .cond c a b,ac,h=>by
  simp only [zz,Option.bind_eq_bind,Option.bind_eq_some_iff,Option.pure_def,Option.some.injEq] at h;obtain ⟨c',_,a',ha,b',hb,rfl⟩:=h;exact ⟨zaw a ha,zaw b hb⟩
 | .block id c,ac,h=>by
  simp only [zz,Option.bind_eq_bind,Option.bind_eq_some_iff,Option.pure_def,Option.some.injEq] at h;obtain ⟨c',hc,rfl⟩:=h;have:=zaw c hc;exact this
 | .loop c,ac,h=>by
  simp only [zz,Option.bind_eq_bind,Option.bind_eq_some_iff,Option.pure_def,Option.some.injEq] at h;obtain ⟨c',hc,rfl⟩:=h;have:=zaw c hc;exact this
 | .rangeFunc _ _ _ _,ac,h=>by simp [zz] at h
 | .scope c,ac,h=>by
  simp only [zz] at h;exact zaw c h
 | .label _,ac,h=>by simp only [zz,Option.some.injEq] at h;subst h;trivial
 | .goto _,ac,h=>by simp [zz] at h
 | .refuse _,ac,h=>by simp [zz] at h
def zmx (X:Told):Prop:= ∀f t,X f=some t-> ∀call,zek call-> ∀args m v m' id blk,m[id]? =some .dead->t call args m=some (v,m')->m'[id]? =some .dead/\t call args (m.set id blk)=some (v,m'.set id blk)
theorem zmy {P:Program}{F:Nat->Option ze}{X:Told}(hF:ziu P F) (hX:zmx X): ∀n,zek (callN F X n)
 |0=>fun f args m v m' id blk hid h=>by simp [callN] at h
 |n+1=>fun f args m v m' id blk hid h=>by
  have ih:=zmy hF hX n;simp only [callN] at h ⊢
  split at h
  ·rename_i t ht
   exact hX f t ht _ ih args m v m' id blk hid h
  split at h
  ·cases h
  rename_i fn hfn
  have hpl:zgA fn.body:=by
   obtain ⟨g,hg,hcomp⟩:=hF f fn hfn;simp only [zf5,Option.bind_eq_bind,Option.bind_eq_some_iff,Option.pure_def] at hcomp;obtain ⟨c,hc,hcomp⟩:=hcomp
   split at hcomp
   ·cases hcomp
   split at hcomp
   ·cases hcomp
   simp only [Option.bind_eq_some_iff,Option.some.injEq] at hcomp;obtain ⟨ac,hac,rl,hrl,rfl⟩:=hcomp;exact zaw c hac
  split at h
  case isFalse=>cases h
  rename_i hlen
  rw [if_pos hlen]
  split at h
  ·rename_i f1 m1 h1
   simp only [Option.map_eq_some_iff] at h;obtain ⟨u,hu,e⟩:=h;cases e;obtain ⟨g1,g2⟩:=zdg (blk:=blk) ih n fn.body hpl hid h1;simp only [g2];exact ⟨g1,by rw [zle g1 hu];rfl⟩
  ·rename_i f1 m1 h1
   simp only [Option.map_eq_some_iff] at h;obtain ⟨u,hu,e⟩:=h;cases e;obtain ⟨g1,g2⟩:=zdg (blk:=blk) ih n fn.body hpl hid h1;simp only [g2];exact ⟨g1,by rw [zle g1 hu];rfl⟩
  ·cases h
variable [HasLay]
section
variable {call:zS}{id:Nat}{blk:Blk}{e:zar}{fr':Frame}{m':Mem}
end
end Go.AM
