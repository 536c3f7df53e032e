import Derived.Test.YtfhbhfogcgfeeaaGreatDoorAmPrim
import Derived.LoopN
set_option linter.unusedVariables false
set_option linter.unusedSimpArgs false
namespace Go.AM
open Go
variable [HasLay]
def zyt (P:Program) (N:Nat):Prop:= ∀{o:Oper}{ao:AOp},zA P N o=some ao-> ∀{φ:Phi}{fr:Frame}{m:Mem}{A:Act}{w:World}{v:V}{m':Mem}{tgt:Option Nat},St φ m w->RF φ N fr A->(∀i,tgt=some i->φ i=none)->zu ao tgt fr m=some (v,m')->Does (fun b=>tgt=some b) P o A w φ m v m'
theorem zsF (P:Program) (N:Nat):zyt P N:=by
 intro o ao hc φ fr m A w v m' tgt hst hA hnt hp;have W:zaI P o A w φ m v m'->Does (fun b=>tgt=some b) P o A w φ m v m':=fun h=>h.weaken (fun _ h=>h.elim)
 cases ho:o.op
 case move x=>
  simp only [zA,ho,Option.map_eq_some_iff] at hc;obtain ⟨a,ha,rfl⟩:=hc;exact W (ztG hst hA (.inl ho) ha hp)
 case assign x=>
  simp only [zA,ho,Option.map_eq_some_iff] at hc;obtain ⟨a,ha,rfl⟩:=hc;exact W (ztG hst hA (.inr ho) ha hp)
 case pick c a b=>
  simp only [zA,ho,Option.bind_eq_bind,Option.bind_eq_some_iff,Option.pure_def,Option.some.injEq] at hc;obtain ⟨c',hc',a',ha',b',hb',rfl⟩:=hc;exact W (zuP hst hA ho hc' ha' hb' hp)
 case alloc e=>
  simp only [zA,ho,Option.map_eq_some_iff] at hc;obtain ⟨z,hz,rfl⟩:=hc;exact zsw hst ho hz  hnt hp
 case box e x=>
  simp only [zA,ho,Option.map_eq_some_iff] at hc;obtain ⟨a,ha,rfl⟩:=hc;exact zv2 hst hA ho ha  hnt hp
 case build t ps=>
  simp only [zA,ho] at hc
  split at hc
  ·rename_i fields hu
   simp only [Option.bind_eq_bind,Option.bind_eq_some_iff,Option.pure_def,Option.some.injEq] at hc;obtain ⟨z,hz,pl,hpl,l,hl,rfl⟩:=hc;exact W (zmO hst hA ho hz (.inl ⟨fields,pl,hu,hpl,hl⟩) hp)
  ·rename_i k e hu
   simp only [Option.bind_eq_bind,Option.bind_eq_some_iff,Option.pure_def,Option.some.injEq] at hc;obtain ⟨z,hz,n,hn,l,hl,rfl⟩:=hc;exact W (zmO hst hA ho hz (.inr ⟨k,e,n,hu,hn,hl⟩) hp)
  ·cases hc
 case buildSlice t n ps=>
  simp only [zA,ho,Option.bind_eq_bind,Option.bind_eq_some_iff,Option.pure_def] at hc;obtain ⟨e,he,z,hz,hc⟩:=hc
  split at hc
  ·cases hc
  ·rename_i hn
   simp only [Option.bind_eq_some_iff,Option.some.injEq] at hc;obtain ⟨l,hl,rfl⟩:=hc;exact zq8 hst hA ho he hz hn hl  hnt hp
 case load t a=>
  simp only [zA,ho,Option.bind_eq_bind,Option.bind_eq_some_iff,Option.pure_def,Option.some.injEq] at hc;obtain ⟨k,hk,a',ha',rfl⟩:=hc;exact W (zuQ hst hA ho hk ha' hp)
 case store t a x=>
  simp only [zA,ho,Option.bind_eq_bind,Option.bind_eq_some_iff,Option.pure_def,Option.some.injEq] at hc;obtain ⟨n,hn,a',ha',x',hx',rfl⟩:=hc;exact W (zsx hst hA ho hn ha' hx' hp)
 case nilCheck x=>
  simp only [zA,ho,Option.map_eq_some_iff] at hc;obtain ⟨a,ha,rfl⟩:=hc;exact W (zsz hst hA ho ha hp)
 case binOp op t x y u=>
  simp only [zA,ho,Option.bind_eq_bind,Option.bind_eq_some_iff,Option.pure_def] at hc;obtain ⟨a,ha,b,hb,hc⟩:=hc
  split at hc
  ·simp only [Option.some.injEq] at hc
   subst hc;exact W (zv4 hst hA ho ha hb hp)
  ·split at hc
   ·simp only [Option.bind_eq_some_iff,Option.some.injEq] at hc
    obtain ⟨c,hcl,rfl⟩:=hc;exact W (zxA hst hA ho hcl ha hb hp)
   ·simp only [Option.bind_eq_some_iff,Option.some.injEq] at hc
    obtain ⟨c,hcl,rfl⟩:=hc;exact W (zxB hst hA ho hcl ha hb hp)
   ·cases hc
 case unOp op t x=>
  simp only [zA,ho,Option.map_eq_some_iff] at hc;obtain ⟨a,ha,rfl⟩:=hc;exact W (zxC hst hA ho ha hp)
 case convert s t x=>
  simp only [zA,ho] at hc
  split at hc
  ·rename_i d k hs ht
   simp only [Option.map_eq_some_iff] at hc;obtain ⟨a,ha,rfl⟩:=hc;exact W (zuS hst hA ho hs ht ha hp)
  ·cases hc
 case makeFunc fn first cap=>
  cases fn
  case func f=>
   simp only [zA,ho,Option.bind_eq_bind,Option.bind_eq_some_iff,Option.pure_def,Option.some.injEq] at hc;obtain ⟨a,ha,b,hb,rfl⟩:=hc;exact W (zuT hst hA ho ha hb hp)
  all_goals (simp [zA,ho] at hc)
 case makeSlice t l c=>
  simp only [zA,ho,Option.bind_eq_bind,Option.bind_eq_some_iff,Option.pure_def] at hc;obtain ⟨e,he,b,hb,hc⟩:=hc
  split at hc
  ·cases hc
  ·simp only [Option.bind_eq_some_iff,Option.some.injEq] at hc
   obtain ⟨z,hz,l',hl',c',hc',rfl⟩:=hc;exact zpQ hst hA ho he hz hb hl' hc'  hnt hp
 case makeMap t r=>
  cases r with
  |some _=>simp [zA,ho] at hc
  |none=>
   simp only [zA,ho] at hc
   split at hc
   ·cases hc
    exact W (zsD hst ho hp)
   ·cases hc
 case lookup t x k ok=>
  cases ok with
  |true=>
   simp only [zA,ho] at hc
   split at hc
   ·rename_i hm
    simp only [Option.bind_eq_bind,Option.bind_eq_some_iff,Option.pure_def,Option.some.injEq] at hc;obtain ⟨a,ha,b,hb,rfl⟩:=hc;exact W (zpS hst hA ho hm ha hb hp)
   ·cases hc
  |false=>
   simp only [zA,ho] at hc
   split at hc
   ·rename_i hm
    simp only [Option.bind_eq_bind,Option.bind_eq_some_iff,Option.pure_def,Option.some.injEq] at hc;obtain ⟨a,ha,b,hb,rfl⟩:=hc;exact W (zra hst hA ho hm ha hb hp)
   ·cases hc
 case mapUpdate t x k u=>
  simp only [zA,ho] at hc
  split at hc
  ·rename_i hm
   simp only [Option.bind_eq_bind,Option.bind_eq_some_iff,Option.pure_def,Option.some.injEq] at hc;obtain ⟨a,ha,b,hb,c,hcc,rfl⟩:=hc;exact W (zrb hst hA ho hm ha hb hcc hp)
  ·cases hc
 case slice t x lo hi mx=>
  simp only [zA,ho,Option.bind_eq_bind,Option.bind_eq_some_iff,Option.pure_def] at hc;obtain ⟨e,he,n,hn,hc⟩:=hc
  split at hc
  ·cases hc
  ·rename_i hmh
   simp only [Option.bind_eq_some_iff,Option.some.injEq] at hc;obtain ⟨a,ha,l,hl,h,hh,k,hk,rfl⟩:=hc;exact W (zsB hst hA ho he hn (by cases mx<;>cases hi<;>simp_all) ha hl hh hk hp)
 case fieldAddr s x f=>
  simp only [zA,ho] at hc
  split at hc
  ·rename_i fields hs
   simp only [Option.bind_eq_bind,Option.bind_eq_some_iff,Option.pure_def] at hc;obtain ⟨fd,hf,n,hn,hc⟩:=hc
   split at hc
   ·cases hc
   ·rename_i h0
    simp only [Option.bind_eq_some_iff,Option.some.injEq] at hc;obtain ⟨a,ha,rfl⟩:=hc;exact W (zmL hst hA ho hs hf hn h0 ha hp)
  ·cases hc
 case field t x f=>
  simp only [zA,ho] at hc
  split at hc
  ·rename_i fields hs
   simp only [Option.bind_eq_bind,Option.bind_eq_some_iff,Option.pure_def,Option.some.injEq] at hc;obtain ⟨fd,hf,k,hk,a,ha,rfl⟩:=hc;exact W (zsA hst hA ho hs hf hk ha hp)
  ·cases hc
 case indexAddr t x ix=>
  simp only [zA,ho] at hc
  split at hc
  ·rename_i e ht
   simp only [Option.bind_eq_bind,Option.bind_eq_some_iff,Option.pure_def,Option.some.injEq] at hc;obtain ⟨n,hn,a,ha,b,hb,rfl⟩:=hc;exact W (zmM hst hA ho ht hn ha hb hp)
  ·rename_i len e ht
   simp only [Option.bind_eq_bind,Option.bind_eq_some_iff,Option.pure_def,Option.some.injEq] at hc;obtain ⟨n,hn,a,ha,b,hb,rfl⟩:=hc;exact W (zn6 hst hA ho ht hn ha hb hp)
  ·cases hc
 case extract t i=>
  simp only [zA,ho,Option.bind_eq_bind,Option.bind_eq_some_iff,Option.pure_def,Option.some.injEq] at hc;obtain ⟨a,ha,rfl⟩:=hc;exact W (zpP hst hA ho ha hp)
 case call c=>
  obtain ⟨callee,args,argTypes⟩:=c;cases callee with
  |value f=>simp [zA,ho] at hc
  |invoke r mth=>simp [zA,ho] at hc
  |builtin b=>
   simp only [zA,ho] at hc
   split at hc
   ·rename_i x t ts h1 h2
    split at hc
    ·rename_i hm
     simp only [Option.bind_eq_bind,Option.bind_eq_some_iff,Option.pure_def,Option.some.injEq] at hc;obtain ⟨a,ha,rfl⟩:=hc;exact W (zuX hst hA ho rfl h1 h2 hm ha hp)
    simp only [Option.bind_eq_bind,Option.bind_eq_some_iff,Option.pure_def,Option.some.injEq] at hc;obtain ⟨e,he,a,ha,rfl⟩:=hc;exact W (zv5 hst hA ho rfl h1 h2 (zbH he) ha hp)
   ·rename_i x t ts h1 h2
    simp only [Option.bind_eq_bind,Option.bind_eq_some_iff,Option.pure_def,Option.some.injEq] at hc;obtain ⟨e,he,a,ha,rfl⟩:=hc;exact W (zv8 hst hA ho rfl h1 h2 (zbH he) ha hp)
   ·rename_i x y t u h1 h2
    simp only [Option.bind_eq_bind,Option.bind_eq_some_iff,Option.pure_def] at hc;obtain ⟨e,he,hc⟩:=hc
    split at hc
    ·rename_i hu
     split at hc
     ·rename_i hiu
      simp only [Option.bind_eq_some_iff] at hc;obtain ⟨b,hb,hc⟩:=hc
      split at hc
      ·cases hc
      ·simp only [Option.bind_eq_some_iff,Option.some.injEq] at hc
       obtain ⟨z,hz,a,ha,c,hc',rfl⟩:=hc;exact W (zuW hst hA ho rfl h1 h2 he hz hb hiu ha hc' hp)
     ·cases hc
    ·rename_i hu
     simp only [Option.bind_eq_some_iff] at hc;obtain ⟨b,hb,hc⟩:=hc
     split at hc
     ·cases hc
     ·simp only [Option.bind_eq_some_iff,Option.some.injEq] at hc
      obtain ⟨z,hz,a,ha,c,hc',rfl⟩:=hc;have:u=t:=by simpa using hu
      subst this;exact W (zq9 hst hA ho rfl h1 h2 he hz hb ha hc' hp)
   ·rename_i x y t ts h1 h2
    simp only [Option.bind_eq_bind,Option.bind_eq_some_iff,Option.pure_def,Option.some.injEq] at hc;obtain ⟨e,he,z,hz,a,ha,b,hb,rfl⟩:=hc;exact W (zuV hst hA ho rfl h1 h2 he hz ha hb hp)
   ·rename_i x t ts h1 h2
    simp only [Option.bind_eq_bind,Option.bind_eq_some_iff,Option.pure_def,Option.some.injEq] at hc;obtain ⟨e,he,z,hz,a,ha,rfl⟩:=hc;exact W (zsC hst hA ho rfl h1 h2 he hz ha hp)
   ·rename_i x y h1
    simp only [Option.bind_eq_bind,Option.bind_eq_some_iff,Option.pure_def,Option.some.injEq] at hc;obtain ⟨a,ha,b,hb,rfl⟩:=hc;exact W (zv6 hst hA ho rfl h1 ha hb hp)
   ·rename_i x y h1
    simp only [Option.bind_eq_bind,Option.bind_eq_some_iff,Option.pure_def,Option.some.injEq] at hc;obtain ⟨a,ha,b,hb,rfl⟩:=hc;exact W (zv7 hst hA ho rfl h1 ha hb hp)
   ·cases hc
 all_goals (simp [zA,ho] at hc)
end Go.AM
namespace Go.AM
open Go
theorem zd7 {P:Program}{b:_root_.Go.Frame}{a:Act}{cs:List _root_.Go.Frame}{w:World}{k:List Item}{c:Code}:
  _root_.Go.step P (lone (b.at a (.code (.scope c)::k)) cs w)= .next (lone (b.at a (.code c:: .inScope c::k)) cs w):=
 step_lone_go (by simp [stepG,stepG.exec,Frame.at])
theorem zn7 {P:Program}{b:_root_.Go.Frame}{a:Act}{cs:List _root_.Go.Frame}{w:World}{k:List Item}{c:Code}:
  _root_.Go.step P (lone (b.at a (.inScope c::k)) cs w)= .next (lone (b.at a k) cs w):=
 step_lone_go (by simp [stepG,stepG.exec,Frame.at])
theorem zuY {P:Program}{Q:Exit->Act->World->Prop}{a:Act}{w:World}{c:Code}(h:c.wp P (fun e a w=>Q e a w/\ ∀l,e≠ .goto l) a w):(Code.scope c).wp P Q a w:=by
 intro b k cs;obtain ⟨e,a₁,w₁,⟨hq,hg⟩,harr⟩:=h b (.inScope c::k) cs;cases e with
 |normal=>exact ⟨.normal,a₁,w₁,hq,.head zd7 (Steps.trans harr (.one zn7))⟩
 |exit id=>exact ⟨.exit id,a₁,w₁,hq,fun k' hk=> .head zd7 (harr k' (by simp [exitTo,hk]))⟩
 |goto l=>exact absurd rfl (hg l)
 |ret=>exact ⟨_,a₁,w₁,hq,.of_steps (.one zd7) harr⟩
 |panic ch=>exact ⟨_,a₁,w₁,hq,.of_steps (.one zd7) harr⟩
 |outgrown=>exact ⟨_,a₁,w₁,hq,.of_steps (b:=b) (k:=k) (cs:=cs) (e:= .outgrown) (.one zd7) harr⟩
def zoT (P:Program) (f:FuncId):Prop:= ∃fn,P.funcs[f]? =some fn/\fn.body.isSome=true/\(fn.name == "runtime.NumGoroutine")=false
section
variable {P:Program}{N:Nat}{φ:Phi}{fr fr':Frame}{m:Mem}{A:Act}{w:World}{o:Oper}{ao:AOp}{v:V}{m':Mem}{call:zS}
theorem zp3 {f:FuncId}(h:zoT P f) (args:Array Value) (w:World):(callFunc f args).run P w= .ok (.enter f args) w:=by
 obtain ⟨fn,h1,h2,h3⟩:=h;have h3':¬ fn.name= "runtime.NumGoroutine" :=by simpa using h3
 have h5:fn.body≠none:=fun e=>by rw [e] at h2;cases h2
 simp [callFunc,h1,h3',h5]
end
section
variable {P:Program}{N:Nat}{φ:Phi}{fr fr':Frame}{m:Mem}{A:Act}{w:World}{o:Oper}{ao:AOp}{v:V}{m':Mem}{call:zS}
theorem zrg {d:Option Tmp}{d':Option Nat}(h:zot N d=some d'):d'=d/\ ∀i,d=some i->i<N:=by
 cases d with
 |none=>simp [zot] at h;exact ⟨h.symm,by simp⟩
 |some t=>
  simp only [zot] at h
  split at h
  ·rename_i ht
   cases h;exact ⟨rfl,fun i hi=>by cases hi;exact ht⟩
  ·cases h
end
section
variable {P:Program}{N:Nat}{φ:Phi}{fr fr':Frame}{m:Mem}{A:Act}{w:World}{o:Oper}{ao:AOp}{v:V}{m':Mem}{call:zS}
theorem zj5 {ops:Array Oper}{g':Option (Nat×Bool)}(h:zmr N ops o.guard=some g') (hA:RF φ N fr A):Region.wanted o (yielded ops A.tmps)=zQ g' fr:=by
 unfold zmr at h;unfold Region.wanted
 split at h
 ·rename_i hg
  cases h;rw [hg];rfl
 ·rename_i j want hg
  rw [hg]
  split at h
  ·rename_i t ht
   split at h
   ·rename_i hlt
    cases h;simp only [yielded,ht,Option.bind_some,zQ];have hr:=hA.rel t hlt;have hget:A.tmps[t]? =some (A.tmps.getD t Go.undef):=by
     have:t<A.tmps.size:=by rw [hA.size];exact hlt
     simp [Array.getD,this]
    rw [hget]
    generalize A.tmps.getD t Go.undef=c at hr
    cases hv:fr t<;>rw [hv] at hr
    case mp b=>obtain ⟨x,rfl⟩:=hr.mpv;rfl
    all_goals simp only [R] at hr
    case bool b=>subst hr;cases b<;>cases want<;>rfl
    case int=>subst hr;rfl
    case nilp=>subst hr;rfl
    case nils=>subst hr;rfl
    case emp=>obtain ⟨p,rfl⟩:=hr;rfl
    case nilf=>subst hr;rfl
    case ptr=>obtain ⟨p,_,rfl⟩:=hr;rfl
    case slice=>obtain ⟨p,a,c,_,_,rfl,_⟩:=hr;rfl
    case fn=>obtain ⟨p,a,rfl,_⟩:=hr;rfl
    case agg=>obtain ⟨p,rfl,_⟩:=hr;rfl
    case tup=>obtain ⟨p,rfl,_⟩:=hr;rfl
   ·cases h
  ·cases h
end
section
variable {P:Program}{N:Nat}{φ:Phi}{fr fr':Frame}{m:Mem}{A:Act}{w:World}{o:Oper}{ao:AOp}{v:V}{m':Mem}{call:zS}
theorem ziR {ops:Array Oper}{x:zo}(h:zeN P N ops o=some x):zot N o.dst=some x.dst/\zmr N ops o.guard=some x.g/\zmq P N o=some x.op/\x.chk=[]/\x.res=none:=by
 simp only [zeN,Option.bind_eq_bind,Option.bind_eq_some_iff,Option.pure_def,Option.some.injEq] at h;obtain ⟨d,hd,g,hg,op,hop,rfl⟩:=h;exact ⟨hd,hg,hop,rfl,rfl⟩
end
section
variable {P:Program}{N:Nat}{φ:Phi}{fr fr':Frame}{m:Mem}{A:Act}{w:World}{o:Oper}{ao:AOp}{v:V}{m':Mem}{call:zS}
theorem zsG {call:zS}{n:Nat}{fr:Frame}{m:Mem}:exec call n (.loop .skip) fr m=none:=by
 have: ∀k fr m,iter (exec call n .skip) k fr m=none:=by
  intro k
  induction k with
  |zero=>intro fr m;rfl
  |succ k ih=>intro fr m;simp only [iter,exec];exact ih fr m
 simp only [exec];exact this _ _ _
end
variable [HasLay]
def zfP (P:Program) (f:FuncId) (args:List V) (m:Mem) (v:V) (m':Mem):Prop:=
 zoT P f/\ ∀(φ:Phi) (w:World) (cargs:List Value),St φ m w->Rs φ args cargs->
  Calls P f cargs.toArray w fun e w'=> ∃φ' cv,e= .returned cv/\Stp φ m w φ' m' w'/\R φ' v cv
def za8 (P:Program) (call:zS):Prop:= ∀f args m v m',call f args m=some (v,m')->zfP P f args m v m'
section
variable {P:Program}{N:Nat}{φ:Phi}{fr fr':Frame}{m:Mem}{A:Act}{w:World}{o:Oper}{ao:AOp}{v:V}{m':Mem}{call:zS}
theorem zmX (hcall:za8 P call) (hc:zmq P N o=some ao) (hst:St φ m w) (hA:RF φ N fr A){tgt:Option Nat}(hnt: ∀i,tgt=some i->φ i=none) (hs:step call ao tgt fr m=some (v,m')){K:Act->World->Prop}{Q:Exit->Act->World->Prop}
  (hK: ∀φ' w' cv,zgH (fun b=>tgt=some b) φ m w φ' m' w'->R φ' v cv->K (A.put o.dst cv) w'):o.wp P A w K Q:=by
 unfold zmq at hc
 split at hc
 ·rename_i f args ts ho
  simp only [Option.bind_eq_bind,Option.bind_eq_some_iff,Option.pure_def,Option.some.injEq] at hc;obtain ⟨f',hf,as,has,rfl⟩:=hc;simp only [step] at hs
  split at hs
  ·rename_i g first cap hg
   obtain ⟨he,hcl⟩:=hcall _ _ _ _ _ hs;have rf:=zg hA hf;rw [hg] at rf;simp only [R] at rf;obtain ⟨fs,cs,ef,r1,r2⟩:=rf;have ra:=zfm hA has;have:=hcl φ w _ hst (r1.append (ra.append r2));unfold Oper.wp;have hrun:(execOp A.eval o).run P w= .ok (.enter g (fs++(args.toList.map A.eval++cs)).toArray) w:=by
    have h1:(fs.toArray++args.map A.eval++cs.toArray)=(fs++(args.toList.map A.eval++cs)).toArray:=by
     apply Array.ext';simp
    rw [<-h1];simp only [execOp,ho,resolve,ef,Deferred.ofValue,Sem.run_bind,Sem.run_pure,Result.andThen_ok,invoke];exact zp3 he _ w
   rw [hrun];simp only [Oper.upon];refine this.mono ?_;rintro e w' ⟨φ',cv,rfl,hstp,hv⟩;exact hK φ' w' cv (hstp.weaken (fun _ h=>h.elim)) hv
  ·cases hs
 ·split at hc
  ·rename_i a ha
   split at hc
   ·cases hc
   ·rename_i hnc
    cases hc;have hs':zu ao tgt fr m=some (v,m'):=by
     cases ao<;>first|exact hs|(simp [zvM] at hnc)
    obtain ⟨cv,w',φ',hr,hstp,hv⟩:=zsF P N ha hst hA hnt hs';unfold Oper.wp;rcases hr with hr|⟨hr,rfl⟩
    ·rw [hr];exact hK φ' w' cv hstp hv
    ·rw [hr];exact hK φ' w' _ hstp hv
  ·cases hc
theorem zkH (hcall:za8 P call){ops:Array Oper}{Q:Exit->Act->World->Prop}: ∀{l:List Oper}{al:List zo},l.mapM (zeN P N ops)=some al-> ∀{φ:Phi}{fr:Frame}{m:Mem}{A:Act}{w:World},
  zC call 0 al fr m=some (fr',m')->St φ m w->RF φ N fr A->(∀φ' A' w',Stp φ m w φ' m' w'->RF φ' N fr' A'->Q .normal A' w')->wpList P ops Q l A w
 | [],al,hl,φ,fr,m,A,w,hr,hst,hA,hQ=>by
  simp at hl;subst hl;simp only [zC,Option.some.injEq,Prod.mk.injEq] at hr;obtain ⟨rfl,rfl⟩:=hr;exact hQ φ A w (Stp.refl hst) hA
 |o::l,al,hl,φ,fr,m,A,w,hr,hst,hA,hQ=>by
  simp only [List.mapM_cons,Option.pure_def,Option.bind_eq_bind,Option.bind_eq_some_iff] at hl;obtain ⟨x,hx,al',hal,e⟩:=hl;cases e;obtain ⟨h1,h2,h3,h4,h5⟩:=ziR hx;obtain ⟨hd,hdl⟩:=zrg h1;simp only [zC,zeL,h5,Option.map_none] at hr;unfold wpList;rw [zj5 h2 hA]
  split at hr
  case h_2=>cases hr
  rename_i fr1 m1 hrun
  split at hrun
  ·rename_i hw
   rw [if_pos hw];left
   split at hrun
   ·rename_i v m2 hs
    split at hrun
    ·cases hrun
     refine zmX hcall h3 hst hA (tgt:=none) (fun i h=>by cases h) hs ?_;intro φ1 w1 cv hstp' hv;have hstp:Stp φ m w φ1 m1 w1:=hstp'.weaken (fun _ h=>by cases h);rw [hd] at hr;exact zkH hcall hal hr hstp.st ((hA.ext hstp.ext).putO hdl hv) (fun φ' A' w' h1 h2=>hQ φ' A' w' (hstp.trans h1) h2)
    ·cases hrun
   ·cases hrun
  ·rename_i hw
   rw [if_neg hw];cases hrun;rw [hd] at hr;exact zkH hcall hal hr hst (hA.undef hdl) hQ
def zsH (P:Program) (call:zS):Prop:= ∀(N:Nat) (id:Nat) (ops:Array Oper) (k:Nat) (al:List zo),zmu P N ops=some (k,al)-> ∀(φ:Phi) (fr:Frame) (m:Mem) (A:Act) (w:World) (fr':Frame) (m':Mem) (Q:Exit->Act->World->Prop),
  zC call m.length al fr (m++List.replicate k .dead)=some (fr',m')->St φ m w->RF φ N fr A->(∀φ' A' w',Stp φ m w φ' m' w'->RF φ' N fr' A'->Q .normal A' w')->(Code.region id ops true).wp P Q A w
def ex:zar->Exit
 | .normal=> .normal
 | .exit id=> .exit id
 | .ret=> .ret
theorem zaF (hcall:za8 P call) (hdraw:zsH P call) (n:Nat): ∀(c:Code){ac:zf},zz P N c=some ac-> ∀{φ:Phi}{fr:Frame}{m:Mem}{A:Act}{w:World}{e:zar}{fr':Frame}{m':Mem}{Q:Exit->Act->World->Prop},
  exec call n ac fr m=some (e,fr',m')->St φ m w->RF φ N fr A->(∀φ' A' w',Stp φ m w φ' m' w'->RF φ' N fr' A'->Q (ex e) A' w')->c.wp P Q A w
 | .skip,ac,hc,φ,fr,m,A,w,e,fr',m',Q,he,hst,hA,hQ=>by
  simp only [zz,Option.some.injEq] at hc;subst hc;simp only [exec,Option.some.injEq,Prod.mk.injEq] at he;obtain ⟨rfl,rfl,rfl⟩:=he;exact wp_skip (hQ φ A w (Stp.refl hst) hA)
 | .ret,ac,hc,φ,fr,m,A,w,e,fr',m',Q,he,hst,hA,hQ=>by
  simp only [zz,Option.some.injEq] at hc;subst hc;simp only [exec,Option.some.injEq,Prod.mk.injEq] at he;obtain ⟨rfl,rfl,rfl⟩:=he;exact wp_ret (hQ φ A w (Stp.refl hst) hA)
 | .exit id,ac,hc,φ,fr,m,A,w,e,fr',m',Q,he,hst,hA,hQ=>by
  simp only [zz,Option.some.injEq] at hc;subst hc;simp only [exec,Option.some.injEq,Prod.mk.injEq] at he;obtain ⟨rfl,rfl,rfl⟩:=he;exact wp_exit (hQ φ A w (Stp.refl hst) hA)
 | .region id ops draw,ac,hc,φ,fr,m,A,w,e,fr',m',Q,he,hst,hA,hQ=>by
  simp only [zz] at hc;cases draw with
  |true=>
   simp only [if_true,Option.map_eq_some_iff] at hc;obtain ⟨⟨k,al⟩,hal,rfl⟩:=hc;simp only [exec,Option.map_eq_some_iff] at he;obtain ⟨⟨fr1,m1⟩,hr,e'⟩:=he;simp only [Prod.mk.injEq] at e';obtain ⟨rfl,rfl,rfl⟩:=e';exact hdraw N id ops k al hal φ fr m A w _ _ Q hr hst hA hQ
  |false=>
   simp only [Bool.false_eq_true,if_false] at hc
   split at hc
   ·rename_i al hal
    cases hc;simp only [exec,Option.map_eq_some_iff] at he;obtain ⟨⟨fr1,m1⟩,hr,e'⟩:=he;simp only [Prod.mk.injEq] at e';obtain ⟨rfl,rfl,rfl⟩:=e';exact wp_region_list (zkH hcall hal hr hst hA hQ)
   ·cases hc
    rw [zsG] at he;cases he
 | .seq a b,ac,hc,φ,fr,m,A,w,e,fr',m',Q,he,hst,hA,hQ=>by
  simp only [zz,Option.bind_eq_bind,Option.bind_eq_some_iff,Option.pure_def,Option.some.injEq] at hc;obtain ⟨a',ha,b',hb,rfl⟩:=hc;simp only [exec] at he;refine wp_seq ?_
  split at he
  ·rename_i fr1 m1 h1
   refine zaF hcall hdraw n a ha h1 hst hA ?_;intro φ1 A1 w1 hstp hA1;exact zaF hcall hdraw n b hb he hstp.st hA1 (fun φ' A' w' h2 h3=>hQ φ' A' w' (hstp.trans h2) h3)
  ·rename_i hne
   refine zaF hcall hdraw n a ha he hst hA ?_;intro φ1 A1 w1 hstp hA1;cases e with
   |normal=>exact absurd he (by intro h;exact hne _ _ h)
   |exit id=>exact hQ φ1 A1 w1 hstp hA1
   |ret=>exact hQ φ1 A1 w1 hstp hA1
 | .cond c a b,ac,hc,φ,fr,m,A,w,e,fr',m',Q,he,hst,hA,hQ=>by
  simp only [zz,Option.bind_eq_bind,Option.bind_eq_some_iff,Option.pure_def,Option.some.injEq] at hc;obtain ⟨c',hc',a',ha,b',hb,rfl⟩:=hc;have rc:=zg hA hc';simp only [exec] at he
  split at he
  ·rename_i hv
   rw [hv] at rc;simp only [R] at rc;exact wp_cond_true rc (zaF hcall hdraw n a ha he hst hA hQ)
  ·rename_i hv
   rw [hv] at rc;simp only [R] at rc;exact wp_cond_false rc (zaF hcall hdraw n b hb he hst hA hQ)
  ·cases he
 | .block id c,ac,hc,φ,fr,m,A,w,e,fr',m',Q,he,hst,hA,hQ=>by
  simp only [zz,Option.bind_eq_bind,Option.bind_eq_some_iff,Option.pure_def,Option.some.injEq] at hc;obtain ⟨c',hc',rfl⟩:=hc;simp only [exec] at he;refine wp_block ?_
  split at he
  ·rename_i id' fr1 m1 h1
   refine zaF hcall hdraw n c hc' h1 hst hA ?_;intro φ1 A1 w1 hstp hA1;simp only [ex,Exit.inBlock]
   split at he
   ·rename_i hid
    simp only [Option.some.injEq,Prod.mk.injEq] at he;obtain ⟨rfl,rfl,rfl⟩:=he;rw [if_pos hid];exact hQ φ1 A1 w1 hstp hA1
   ·rename_i hid
    simp only [Option.some.injEq,Prod.mk.injEq] at he;obtain ⟨rfl,rfl,rfl⟩:=he;rw [if_neg hid];exact hQ φ1 A1 w1 hstp hA1
  ·rename_i hne
   refine zaF hcall hdraw n c hc' he hst hA ?_;intro φ1 A1 w1 hstp hA1;cases e with
   |normal=>exact hQ φ1 A1 w1 hstp hA1
   |exit id'=>exact absurd he (by intro h;exact hne _ _ _ h)
   |ret=>exact hQ φ1 A1 w1 hstp hA1
 | .loop c,ac,hc,φ,fr,m,A,w,e,fr',m',Q,he,hst,hA,hQ=>by
  simp only [zz,Option.bind_eq_bind,Option.bind_eq_some_iff,Option.pure_def,Option.some.injEq] at hc;obtain ⟨c',hc',rfl⟩:=hc;simp only [exec] at he;refine wp_loop_rounds n ?_;have key: ∀(k:Nat){φ:Phi}{fr:Frame}{m:Mem}{A:Act}{w:World},iter (exec call n c') k fr m=some (e,fr',m')->St φ m w->RF φ N fr A->
    (∀φ' A' w',Stp φ m w φ' m' w'->RF φ' N fr' A'->Q (ex e) A' w')->Code.rounds P c Q k A w:=by
   intro k
   induction k with
   |zero=>intro φ fr m A w h;simp [iter] at h
   |succ k ih=>
    intro φ fr m A w h hst hA hQ;simp only [iter] at h;rw [rounds_succ]
    split at h
    ·rename_i fr1 m1 h1
     refine zaF hcall hdraw n c hc' h1 hst hA ?_;intro φ1 A1 w1 hstp hA1;exact ih h hstp.st hA1 (fun φ' A' w' h2 h3=>hQ φ' A' w' (hstp.trans h2) h3)
    ·rename_i hne
     refine zaF hcall hdraw n c hc' h hst hA ?_;intro φ1 A1 w1 hstp hA1;cases e with
     |normal=>exact absurd h (by intro h;exact hne _ _ h)
     |exit id=>exact hQ φ1 A1 w1 hstp hA1
     |ret=>exact hQ φ1 A1 w1 hstp hA1
  exact key n he hst hA hQ
 | .rangeFunc _ _ _ _,ac,hc,_,_,_,_,_,_,_,_,_,_,_,_,_=>by simp [zz] at hc
 | .scope c,ac,hc,φ,fr,m,A,w,e,fr',m',Q,he,hst,hA,hQ=>by
  simp only [zz] at hc;refine zuY (zaF hcall hdraw n c hc he hst hA ?_);intro φ' A' w' h1 h2;exact ⟨hQ φ' A' w' h1 h2,by cases e<;>(intro l h;cases h)⟩
 | .label _,ac,hc,φ,fr,m,A,w,e,fr',m',Q,he,hst,hA,hQ=>by
  simp only [zz,Option.some.injEq] at hc;subst hc;simp only [exec,Option.some.injEq,Prod.mk.injEq] at he;obtain ⟨rfl,rfl,rfl⟩:=he;exact wp_label (hQ φ A w (Stp.refl hst) hA)
 | .goto _,ac,hc,_,_,_,_,_,_,_,_,_,_,_,_,_=>by simp [zz] at hc
 | .refuse _,ac,hc,_,_,_,_,_,_,_,_,_,_,_,_,_=>by simp [zz] at hc
end
end Go.AM
namespace Go.AM
open Go
def zkI (tmps:Array Value) (r:ResultVar):Sem Value:=
 match r with
 | .tmp t=>pure (tmps.getD t Go.undef)
 | .cell a t=>do loadVar t (<-asAddr (tmps.getD a Go.undef))
theorem zsI (fn:Func) (tmps:Array Value):results fn tmps=(do let vs <-fn.results.mapM (zkI tmps);pure (if h:vs.size=1 then vs[0] else .tuple vs)):=by
 unfold results
 congr 1
variable [HasLay]
section
variable {P:Program}{N:Nat}{φ:Phi}{fr:Frame}{m:Mem}{A:Act}{w:World}{v:V}
theorem zmY (hst:St φ m w) (hA:RF φ N fr A){r:ResultVar}{rv:RV}(hc:zuG P N r=some rv) (h:zdf fr m rv=some v):
  ∃c,(zkI A.tmps r).run P w= .ok c w/\R φ v c:=by
 cases r with
 |tmp t=>
  simp only [zuG] at hc
  split at hc
  ·rename_i ht
   cases hc;simp only [zdf,Option.some.injEq] at h;subst h;exact ⟨_,by simp only [zkI,Sem.run_pure],hA.rel t ht⟩
  ·cases hc
 |cell a t=>
  simp only [zuG] at hc
  split at hc
  ·rename_i ht
   simp only [Option.map_eq_some_iff] at hc;obtain ⟨k,hk,rfl⟩:=hc;simp only [zdf] at h;obtain ⟨ad,cv,h1,h2,h3⟩:=zhB hk hst (hA.rel a ht) h;exact ⟨cv,by simp only [zkI,h1,Sem.run_bind,asAddr,Sem.run_pure,Result.andThen_ok,h2],h3⟩
  ·cases hc
theorem zhL (hst:St φ m w) (hA:RF φ N fr A): ∀{l:List ResultVar}{rl:List RV}{vs:List V},l.mapM (zuG P N)=some rl->rl.mapM (zdf fr m)=some vs->
  ∃cs,(l.mapM (zkI A.tmps)).run P w= .ok cs w/\Rs φ vs cs
 | [],rl,vs,h,h'=>by
  simp at h;subst h;simp at h';subst h';exact ⟨[],by simp only [List.mapM_nil,Sem.run_pure],rfl⟩
 |r::l,rl,vs,h,h'=>by
  simp only [List.mapM_cons,Option.pure_def,Option.bind_eq_bind,Option.bind_eq_some_iff] at h;obtain ⟨a,ha,as,has,e⟩:=h;cases e;simp only [List.mapM_cons,Option.pure_def,Option.bind_eq_bind,Option.bind_eq_some_iff] at h';obtain ⟨u,hu,us,hus,e⟩:=h';cases e;obtain ⟨c,h1,h2⟩:=zmY hst hA ha hu;obtain ⟨cs,h3,h4⟩:=zhL hst hA has hus;refine ⟨c::cs,?_,by simp only [Rs];exact ⟨c,cs,rfl,h2,h4⟩⟩;rw [List.mapM_cons];simp only [Sem.run_bind,h1,Result.andThen_ok,h3,Sem.run_pure]
theorem ziS (hst:St φ m w) (hA:RF φ N fr A){fn:Func}{rl:List RV}(h:fn.results.toList.mapM (zuG P N)=some rl) (hr:zbn rl fr m=some v):
  ∃c,(results fn A.tmps).run P w= .ok c w/\R φ v c:=by
 simp only [zbn,Option.map_eq_some_iff] at hr;obtain ⟨vs,hvs,rfl⟩:=hr;obtain ⟨cs,h1,h2⟩:=zhL hst hA h hvs;have hm:(fn.results.mapM (zkI A.tmps)).run P w= .ok cs.toArray w:=by
  rw [Array.mapM_eq_mapM_toList];simp only [map_eq_pure_bind,Sem.run_bind,h1,Result.andThen_ok,Sem.run_pure]
 rw [zsI]
 match vs,cs,h2 with
 | [],cs,h2=>
  simp only [Rs] at h2;subst h2;refine ⟨.tuple #[],?_,by simp only [R];exact ⟨[],rfl,rfl⟩⟩;simp only [Sem.run_bind];rw [hm]
  simp
 | [u],cs,h2=>
  simp only [Rs] at h2;obtain ⟨c,r,rfl,h3,rfl⟩:=h2;refine ⟨c,?_,h3⟩;simp only [Sem.run_bind];rw [hm]
  simp
 |u1::u2::us,cs,h2=>
  refine ⟨.tuple cs.toArray,?_,by simp only [R];exact ⟨cs,rfl,h2⟩⟩;have hl:=h2.len;simp only [Sem.run_bind];rw [hm];simp only [Result.andThen_ok,List.size_toArray];rw [dif_neg (by rw [hl];simp)];rfl
end
def ziu (P:Program) (F:Nat->Option ze):Prop:= ∀f fn,F f=some fn-> ∃g,P.funcs[f]? =some g/\zf5 P g=some fn
def zp4 (P:Program) (X:Told):Prop:= ∀f t,X f=some t-> ∀call,za8 P call-> ∀args m v m',t call args m=some (v,m')->zfP P f args m v m'
theorem zll {P:Program}{F:Nat->Option ze}{X:Told}(hF:ziu P F) (hX:zp4 P X) (hD: ∀n,za8 P (callN F X n)->zsH P (callN F X n)): ∀n,za8 P (callN F X n)
 |0=>fun f args m v m' h=>by simp [callN] at h
 |n+1=>fun f args m v m' h=>by
  have ih:=zll hF hX hD n;simp only [callN] at h
  split at h
  ·rename_i t ht
   exact hX f t ht _ ih args m v m' h
  split at h
  ·cases h
  rename_i fn hfn
  obtain ⟨g,hg,hcomp⟩:=hF f fn hfn
  split at h
  case isFalse=>cases h
  rename_i hlen
  simp only [zf5,Option.bind_eq_bind,Option.bind_eq_some_iff,Option.pure_def] at hcomp;obtain ⟨c,hc,hcomp⟩:=hcomp
  split at hcomp
  ·cases hcomp
  rename_i hname
  split at hcomp
  ·cases hcomp
  rename_i hntm
  simp only [Option.bind_eq_some_iff,Option.some.injEq] at hcomp;obtain ⟨ac,hac,rl,hrl,rfl⟩:=hcomp;refine ⟨⟨g,hg,by rw [hc];rfl,by simpa using hname⟩,fun φ w cargs hst hargs=> ?_⟩;have hcl:cargs.length=args.length:=hargs.len;simp only at hlen;refine calls_of_wp hg hc ?_;have hA:RF φ g.ntmps (ziJ args) { tmps:=cargs.toArray++Array.replicate (g.ntmps-cargs.toArray.size) Go.undef,defers:=[] }:=by
   refine ⟨by simp;omega,rfl,fun i hi=> ?_⟩;unfold ziJ
   by_cases hlt:i<args.length
   ·have h1:args[i]? =some args[i]:=List.getElem?_eq_getElem hlt
    obtain ⟨cv,h2,h3⟩:=hargs.get h1;have h4:(cargs.toArray++Array.replicate (g.ntmps-cargs.toArray.size) Go.undef).getD i Go.undef=cv:=by
     rw [Array.getD_eq_getD_getElem?,Array.getElem?_append_left (by simp;omega)];simp [h2]
    rw [h4];simp [List.getD,h1];exact h3
   ·have h4:(cargs.toArray++Array.replicate (g.ntmps-cargs.toArray.size) Go.undef).getD i Go.undef=Go.undef:=by
     rw [Array.getD_eq_getD_getElem?,Array.getElem?_append_right (by simp;omega)];simp [Array.getElem?_replicate]
     split<;>rfl
    rw [h4];simp [List.getD,List.getElem?_eq_none (Nat.le_of_not_lt hlt)];exact zfl φ
  split at h
  ·rename_i fr1 m1 hx
   simp only [Option.map_eq_some_iff,Prod.mk.injEq] at h;obtain ⟨v1,hv1,rfl,rfl⟩:=h;refine zaF ih (hD n ih) n c hac hx hst hA ?_;intro φ' A' w' hstp hA';obtain ⟨cv,h1,h2⟩:=ziS hstp.st hA' hrl hv1;exact ⟨hA'.defers,cv,h1,φ',cv,rfl,hstp,h2⟩
  ·rename_i fr1 m1 hx
   simp only [Option.map_eq_some_iff,Prod.mk.injEq] at h;obtain ⟨v1,hv1,rfl,rfl⟩:=h;refine zaF ih (hD n ih) n c hac hx hst hA ?_;intro φ' A' w' hstp hA';obtain ⟨cv,h1,h2⟩:=ziS hstp.st hA' hrl hv1;exact ⟨hA'.defers,cv,h1,φ',cv,rfl,hstp,h2⟩
  ·cases h
end Go.AM
