import Derived.Test.YtfhbhfogcgfeeaaGreatDoorAmDefs
import Derived.ArgAppend
import Derived.Laws.MakeOwn
import Derived.Laws.CopyRow
set_option linter.unusedVariables false
set_option linter.unusedSimpArgs false
namespace Go.AM
open Go
structure PL where
 blk:Nat
 base:Nat
 esz:Nat
 size:Nat
abbrev Phi:=Nat->Option PL
mutual
def R (φ:Phi):V->Value->Prop
 | .bool b,v=>v= .bool b
 | .int k n,v=>v= .int k n
 | .nilp,v=>v= .pointer none
 | .ptr b i j,v=> ∃p,φ b=some p/\v= .pointer (some ⟨p.blk,p.base+i*p.esz+j,none⟩)
 | .nils,v=>v= .slice none 0 0
 | .emp,v=> ∃a,v= .slice (some a) 0 0
 | .slice b i len cap ex z,v=> ∃p a cap',φ b=some p/\p.esz=z/\v= .slice (some ⟨p.blk,a,none⟩) len cap'/\cap<=cap'/\(ex=true->cap'=cap)/\
   cap'<=maxLen/\len<=cap'/\(a=p.base+i*z\/cap'=0)/\a+cap'*z<=p.size
 | .nilf,v=>v= .nilFunc
 | .fn f first cap,v=> ∃fs cs:List Value,v= .func (.func f) fs.toArray cs.toArray/\Rs φ first fs/\Rs φ cap cs
 | .agg cs,v=> ∃l:List Value,v= .agg l.toArray/\Rs φ cs l
 | .tup cs,v=> ∃l:List Value,v= .tuple l.toArray/\Rs φ cs l
 | .mp none,v=>v= .map none
 | .mp (some b),v=> ∃p,φ b=some p/\v= .map (some p.blk)
def Rs (φ:Phi):List V->List Value->Prop
 | [],l=>l=[]
 |v::vs,l=> ∃c r,l=c::r/\R φ v c/\Rs φ vs r
end
def Ext (φ φ':Phi):Prop:= ∀b p,φ b=some p->φ' b=some p
theorem Ext.refl (φ:Phi):Ext φ φ:=fun _ _ h=>h
theorem Ext.trans {a b c:Phi}(h:Ext a b) (k:Ext b c):Ext a c:=fun x p hx=>k x p (h x p hx)
mutual
theorem R.ext {φ φ':Phi}(h:Ext φ φ'): ∀(v:V){c:Value},R φ v c->R φ' v c
 | .bool _,_,r| .int _ _,_,r| .nilp,_,r| .nils,_,r| .emp,_,r| .nilf,_,r| .mp none,_,r=>by simpa [R] using r
 | .mp (some _),_,r=>by
  simp only [R] at r ⊢;obtain ⟨p,hp,e⟩:=r;exact ⟨p,h _ _ hp,e⟩
 | .ptr _ _ _,_,r=>by
  simp only [R] at r ⊢;obtain ⟨p,hp,e⟩:=r;exact ⟨p,h _ _ hp,e⟩
 | .slice _ _ _ _ _ _,_,r=>by
  simp only [R] at r ⊢;obtain ⟨p,a,c,hp,e⟩:=r;exact ⟨p,a,c,h _ _ hp,e⟩
 | .fn _ first cap,_,r=>by
  simp only [R] at r ⊢;obtain ⟨fs,cs,e,h1,h2⟩:=r;exact ⟨fs,cs,e,Rs.ext h first h1,Rs.ext h cap h2⟩
 | .agg cs,_,r=>by
  simp only [R] at r ⊢;obtain ⟨l,e,h1⟩:=r;exact ⟨l,e,Rs.ext h cs h1⟩
 | .tup cs,_,r=>by
  simp only [R] at r ⊢;obtain ⟨l,e,h1⟩:=r;exact ⟨l,e,Rs.ext h cs h1⟩
theorem Rs.ext {φ φ':Phi}(h:Ext φ φ'): ∀(vs:List V){l:List Value},Rs φ vs l->Rs φ' vs l
 | [],_,r=>by simpa [Rs] using r
 |v::vs,_,r=>by
  simp only [Rs] at r ⊢;obtain ⟨c,t,e,h1,h2⟩:=r;exact ⟨c,t,e,R.ext h v h1,Rs.ext h vs h2⟩
end
section
variable {φ:Phi}
theorem Rs.len: ∀{vs:List V}{l:List Value},Rs φ vs l->l.length=vs.length
 | [],_,r=>by simp only [Rs] at r;subst r;rfl
 |v::vs,_,r=>by
  simp only [Rs] at r;obtain ⟨c,t,rfl,_,h2⟩:=r;simp [Rs.len h2]
theorem Rs.append: ∀{vs us:List V}{l k:List Value},Rs φ vs l->Rs φ us k->Rs φ (vs++us) (l++k)
 | [],_,_,_,r,s=>by simp only [Rs] at r;subst r;exact s
 |v::vs,us,_,_,r,s=>by
  simp only [Rs] at r;obtain ⟨c,t,rfl,h1,h2⟩:=r;simp only [List.cons_append,Rs];exact ⟨c,_,rfl,h1,h2.append s⟩
theorem Rs.split: ∀{vs us:List V}{l:List Value},Rs φ (vs++us) l-> ∃a b,l=a++b/\Rs φ vs a/\Rs φ us b
 | [],us,l,r=>⟨[],l,rfl,by simp [Rs],r⟩
 |v::vs,us,_,r=>by
  simp only [List.cons_append,Rs] at r;obtain ⟨c,t,rfl,h1,h2⟩:=r;obtain ⟨a,b,rfl,ha,hb⟩:=h2.split;exact ⟨c::a,b,rfl,by simp only [Rs];exact ⟨c,a,rfl,h1,ha⟩,hb⟩
theorem Rs.get: ∀{vs:List V}{l:List Value},Rs φ vs l-> ∀{i:Nat}{v:V},vs[i]? =some v-> ∃c,l[i]? =some c/\R φ v c
 | [],_,_,i,v,h=>by simp at h
 |u::vs,_,r,i,v,h=>by
  simp only [Rs] at r;obtain ⟨c,t,rfl,h1,h2⟩:=r;cases i with
  |zero=>simp at h;subst h;exact ⟨c,rfl,h1⟩
  |succ i=>simpa using h2.get (by simpa using h)
theorem Rs.one {v:V}{c:Value}(h:R φ v c):Rs φ [v] [c]:=by simp only [Rs];exact ⟨c,[],rfl,h,rfl⟩
theorem Rs.take: ∀{vs:List V}{l:List Value},Rs φ vs l-> ∀n,Rs φ (vs.take n) (l.take n)
 |_,_,_,0=>by simp [Rs]
 | [],_,r,n+1=>by simp only [Rs] at r;subst r;simp [Rs]
 |v::vs,_,r,n+1=>by
  simp only [Rs] at r;obtain ⟨c,t,rfl,h1,h2⟩:=r;simp only [List.take_succ_cons,Rs];exact ⟨c,_,rfl,h1,h2.take n⟩
theorem Rs.drop: ∀{vs:List V}{l:List Value},Rs φ vs l-> ∀n,Rs φ (vs.drop n) (l.drop n)
 |_,_,r,0=>by simpa using r
 | [],_,r,n+1=>by simp only [Rs] at r;subst r;simp [Rs]
 |v::vs,_,r,n+1=>by
  simp only [Rs] at r;obtain ⟨c,t,rfl,h1,h2⟩:=r
  simpa using h2.drop n
theorem R.mp {b:Option Nat}{c:Value}(r:R φ (.mp b) c):c.oneCell'=true/\c.cells= #[c]:=by
 cases b with
 |none=>simp only [R] at r;subst r;exact ⟨rfl,rfl⟩
 |some b=>simp only [R] at r;obtain ⟨p,_,rfl⟩:=r;exact ⟨rfl,rfl⟩
theorem R.mpv {b:Option Nat}{c:Value}(r:R φ (.mp b) c): ∃x,c= .map x:=by
 cases b with
 |none=>simp only [R] at r;exact ⟨_,r⟩
 |some b=>simp only [R] at r;obtain ⟨p,_,rfl⟩:=r;exact ⟨_,rfl⟩
theorem R.cell {v:V}{c:Value}(r:R φ v c) (h:v.isCell=true):c.oneCell'=true:=by
 cases v
 case mp b=>exact r.mp.1
 all_goals simp only [R] at r
 all_goals first|(simp [V.isCell] at h;done)|skip
 all_goals first
  |(subst r;rfl)
  |(obtain ⟨p,_,rfl⟩:=r;rfl)
  |(obtain ⟨p,a,c,_,_,rfl,_⟩:=r;rfl)
  |(obtain ⟨p,a,rfl,_⟩:=r;rfl)
  |(obtain ⟨p,rfl⟩:=r;rfl)
theorem R.cells {v:V}{c:Value}(r:R φ v c):Rs φ v.cells c.cells.toList:=by
 cases v
 case agg cs=>
  simp only [R] at r;obtain ⟨l,rfl,h⟩:=r
  simpa [V.cells,Value.cells] using h
 all_goals
  have e:c.cells= #[c]:=by
   first
    |exact r.mp.2
    | (simp only [R] at r
       first
        |(subst r;rfl)
        |(obtain ⟨p,_,rfl⟩:=r;rfl)
        |(obtain ⟨p,a,c,_,_,rfl,_⟩:=r;rfl)
        |(obtain ⟨p,a,rfl,_⟩:=r;rfl)
        |(obtain ⟨p,rfl,_⟩:=r;rfl)
        |(obtain ⟨p,rfl⟩:=r;rfl))
  rw [e];exact Rs.one r
theorem Rs.cells_all: ∀{vs:List V}{l:List Value},Rs φ vs l->(∀v∈vs,v.isCell=true)-> ∀c∈l,c.oneCell'=true
 | [],_,r,_,c,hc=>by simp only [Rs] at r;subst r;simp at hc
 |v::vs,_,r,h,c,hc=>by
  simp only [Rs] at r;obtain ⟨d,t,rfl,h1,h2⟩:=r;rcases List.mem_cons.1 hc with rfl|hc
  ·exact h1.cell (h v (by simp))
  ·exact h2.cells_all (fun u hu=>h u (by simp [hu])) c hc
end
def Wf (z:Nat) (els:List (List V)):Prop:= ∀el∈els,el.length=z/\ ∀v∈el,v.isCell=true
structure BR (φ:Phi) (w:World) (p:PL) (own:Bool) (els:List (List V)):Prop where
 wf:Wf p.esz els
 lay: ∃(c:Array Value) (e:TypeId) (fr:Nat×Nat) (x a y:List Value),w.heap[p.blk]? =some (.cells c e fr)/\c.size=p.size/\(own=true->fr=(0,0))/\
  c.toList=x++(a++y)/\x.length=p.base/\Rs φ els.flatten a
def MR (w:World) (p:PL) (es:List (Int×Int)):Prop:= ∃ents clock,w.heap[p.blk]? =some (Obj.map ents clock)/\ents.toList.map (fun e=>(e.key,e.val))=es.map fun x=>(Value.int .u64 x.1,Value.int .i64 x.2)
def zyq (φ:Phi) (m:Mem) (B:Nat):Prop:= ∃b els p,m[b]? =some (.cells true els)/\φ b=some p/\p.blk=B
def zsE (φ:Phi) (m:Mem) (B:Nat):Prop:= ∃b es p,m[b]? =some (.mp es)/\φ b=some p/\p.blk=B
def zoL (φ:Phi) (m:Mem) (B:Nat):Prop:=zyq φ m B\/zsE φ m B
structure St0 (φ:Phi) (m:Mem) (w:World):Prop where
 fresh: ∀b,m.length<=b->φ b=none
 blk: ∀b own els,m[b]? =some (.cells own els)-> ∃p,φ b=some p/\BR φ w p own els
 excl: ∀b els b' own' els' p p',m[b]? =some (.cells true els)->m[b']? =some (.cells own' els')->b≠b'->φ b=some p->φ b'=some p'->p.blk≠p'.blk
 mpk: ∀b es,m[b]? =some (.mp es)-> ∃p,φ b=some p/\MR w p es
 mpx: ∀b es b' es' p p',m[b]? =some (.mp es)->m[b']? =some (.mp es')->b≠b'->φ b=some p->φ b'=some p'->p.blk≠p'.blk
class HasLay where
 on:Bool
 blk:Nat
 ok:Option Obj->Prop
theorem BR.world {φ φ':Phi}{w w':World}{p:PL}{own:Bool}{els:List (List V)}(h:BR φ w p own els) (he:Ext φ φ') (hw:w'.heap[p.blk]? =w.heap[p.blk]?):BR φ' w' p own els:=by
 obtain ⟨c,e,fr,x,a,y,h1,h2,h3,h4,h5,h6⟩:=h.lay;exact ⟨h.wf,c,e,fr,x,a,y,hw.trans h1,h2,h3,h4,h5,h6.ext he⟩
theorem BR.lt {φ:Phi}{w:World}{p:PL}{own:Bool}{els:List (List V)}(h:BR φ w p own els):p.blk<w.heap.size:=by
 obtain ⟨c,e,fr,x,a,y,h1,_⟩:=h.lay;exact (Array.getElem?_eq_some_iff.1 h1).1
def Phi.set (φ:Phi) (b:Nat) (p:PL):Phi:=fun x=>if x=b then some p else φ x
theorem Phi.set_ext {φ:Phi}{b:Nat}(p:PL) (h:φ b=none):Ext φ (φ.set b p):=by
 intro x q hx;unfold Phi.set
 split
 ·rename_i e;subst e;rw [h] at hx;cases hx
 ·exact hx
theorem Phi.set_same (φ:Phi) (b:Nat) (p:PL):φ.set b p b=some p:=by simp [Phi.set]
theorem Phi.set_other (φ:Phi){b x:Nat}(p:PL) (h:x≠b):φ.set b p x=φ x:=by simp [Phi.set,h]
theorem mem_push {m:Mem}{x:Blk}{b:Nat}{y:Blk}(h:(m++[x])[b]? =some y):(b<m.length/\m[b]? =some y)\/(b=m.length/\x=y):=by
 rcases Nat.lt_trichotomy b m.length with hb|hb|hb
 ·rw [List.getElem?_append_left hb] at h;exact .inl ⟨hb,h⟩
 ·subst hb;simp at h;exact .inr ⟨rfl,h⟩
 ·rw [List.getElem?_eq_none (by simp;omega)] at h;cases h
variable [HasLay]
def Lay (φ:Phi) (m:Mem) (w:World):Prop:=HasLay.on=true->HasLay.blk<w.heap.size/\HasLay.ok w.heap[HasLay.blk]? /\¬ zoL φ m HasLay.blk
structure St (φ:Phi) (m:Mem) (w:World):Prop extends St0 φ m w where
 lay:Lay φ m w
theorem Lay.off {φ:Phi}{m:Mem}{w:World}(h:HasLay.on=false):Lay φ m w:=fun e=>by rw [h] at e;cases e
theorem Lay.nil {φ:Phi}{m:Mem}{w:World}(h:Lay φ m w):Lay (fun _=>none) [] w:=fun e=>by
 obtain ⟨h1,h2,_⟩:=h e;exact ⟨h1,h2,by rintro (⟨b,els,p,hb,_⟩|⟨b,es,p,hb,_⟩)<;>simp at hb⟩
theorem St.maps {φ φ':Phi}{m m':Mem}{w w':World}(h:St φ m w) (hx:Ext φ φ') (hm: ∀(b:Nat) (es:List (Int×Int)),m'[b]? =some (Blk.mp es)->m[b]? =some (Blk.mp es)) (hw: ∀(B:Nat) (ents:Array MapEntry) (clock:Nat),w.heap[B]? =some (Obj.map ents clock)->w'.heap[B]? =some (Obj.map ents clock)):
  (∀(b:Nat) (es:List (Int×Int)),m'[b]? =some (Blk.mp es)-> ∃p,φ' b=some p/\MR w' p es)/\(∀(b:Nat) (es:List (Int×Int)) (b':Nat) (es':List (Int×Int)) (p p':PL),m'[b]? =some (Blk.mp es)->m'[b']? =some (Blk.mp es')->b≠b'->φ' b=some p->φ' b'=some p'->p.blk≠p'.blk)/\ ∀B,zsE φ' m' B->zsE φ m B:=by
 have key: ∀(b:Nat) (es:List (Int×Int)) (p:PL),m'[b]? =some (Blk.mp es)->φ' b=some p->φ b=some p:=by
  intro b es p hb hp;obtain ⟨q,hq,_⟩:=h.mpk b es (hm b es hb);have:=hx _ _ hq;rw [hp] at this;cases this;exact hq
 refine ⟨fun b es hb=> ?_,fun b es b' es' p p' hb hb' hne hp hp'=>h.mpx b es b' es' p p' (hm _ _ hb) (hm _ _ hb') hne (key _ _ _ hb hp) (key _ _ _ hb' hp'),?_⟩
 ·obtain ⟨p,hp,ents,clock,h1,h2⟩:=h.mpk b es (hm b es hb)
  exact ⟨p,hx _ _ hp,ents,clock,hw _ _ _ h1,h2⟩
 ·rintro B ⟨b,es,p,hb,hp,rfl⟩
  exact ⟨b,es,p,hm _ _ hb,key _ _ _ hb hp,rfl⟩
structure zfo (E:Nat->Prop) (φ:Phi) (m:Mem) (w:World) (φ':Phi) (m':Mem) (w':World):Prop where
 ext:Ext φ φ'
 st:St0 φ' m' w'
 len:m.length<=m'.length
 size:w.heap.size<=w'.heap.size
 os:w'.os=w.os
 tape:w'.tape=w.tape
 output:w'.output=w.output
 frame: ∀B,B<w.heap.size->¬ zoL φ m B->w'.heap[B]? =w.heap[B]? /\¬ zoL φ' m' B
 old: ∀b,b<m.length->¬ E b->φ b=none->φ' b=none
structure zgH (E:Nat->Prop) (φ:Phi) (m:Mem) (w:World) (φ':Phi) (m':Mem) (w':World):Prop where
 ext:Ext φ φ'
 st:St φ' m' w'
 len:m.length<=m'.length
 size:w.heap.size<=w'.heap.size
 os:w'.os=w.os
 tape:w'.tape=w.tape
 output:w'.output=w.output
 frame: ∀B,B<w.heap.size->¬ zoL φ m B->w'.heap[B]? =w.heap[B]? /\¬ zoL φ' m' B
 old: ∀b,b<m.length->¬ E b->φ b=none->φ' b=none
theorem zfo.to {E:Nat->Prop}{φ φ':Phi}{m m':Mem}{w w':World}(h:St φ m w) (k:zfo E φ m w φ' m' w'):zgH E φ m w φ' m' w':=
 ⟨k.ext,⟨k.st,fun on=>by
  obtain ⟨h1,h2,h3⟩:=h.lay on;obtain ⟨f1,f2⟩:=k.frame _ h1 h3;exact ⟨Nat.lt_of_lt_of_le h1 k.size,by rw [f1];exact h2,f2⟩⟩,k.len,k.size,k.os,k.tape,k.output,k.frame,k.old⟩
abbrev Stp:=zgH (fun _=>False)
theorem Stp.refl {φ:Phi}{m:Mem}{w:World}(h:St φ m w):Stp φ m w φ m w:=
 ⟨Ext.refl _,h,Nat.le_refl _,Nat.le_refl _,rfl,rfl,rfl,fun _ _ h=>⟨rfl,h⟩,fun _ _ _ h=>h⟩
theorem zgH.trans {E:Nat->Prop}{φ φ' φ'':Phi}{m m' m'':Mem}{w w' w'':World}(h:zgH E φ m w φ' m' w') (k:zgH E φ' m' w' φ'' m'' w''):zgH E φ m w φ'' m'' w'':=
 ⟨h.ext.trans k.ext,k.st,Nat.le_trans h.len k.len,Nat.le_trans h.size k.size,k.os.trans h.os,k.tape.trans h.tape,k.output.trans h.output,fun B hB hO=>
  let ⟨a,b⟩:=h.frame B hB hO
  let ⟨c,d⟩:=k.frame B (Nat.lt_of_lt_of_le hB h.size) b
  ⟨c.trans a,d⟩,fun b hb hE hn=>k.old b (Nat.lt_of_lt_of_le hb h.len) hE (h.old b hb hE hn)⟩
theorem zgH.weaken {E E':Nat->Prop}(hE: ∀b,E b->E' b){φ φ':Phi}{m m':Mem}{w w':World}(h:zgH E φ m w φ' m' w'):zgH E' φ m w φ' m' w':=
 { h with old:=fun b hb hn=>h.old b hb (fun e=>hn (hE b e)) }
theorem Stp.trans {φ φ' φ'':Phi}{m m' m'':Mem}{w w' w'':World}(h:Stp φ m w φ' m' w') (k:Stp φ' m' w' φ'' m'' w''):Stp φ m w φ'' m'' w'':=zgH.trans h k
theorem Stp.same {φ:Phi}{m:Mem}{w w':World}(h:St φ m w) (hh:w'.heap=w.heap) (h1:w'.os=w.os) (h2:w'.tape=w.tape) (h3:w'.output=w.output):Stp φ m w φ m w':=by
 obtain ⟨M1,M2,_⟩:=h.maps (w':=w') (Ext.refl _) (fun _ _ h=>h) (fun _ _ _ g=>by rw [hh];exact g);refine zfo.to h ⟨Ext.refl _,⟨h.fresh,fun b own els hb=> ?_,h.excl,M1,M2⟩,Nat.le_refl _,by rw [hh];exact Nat.le_refl _,h1,h2,h3,fun B hB hO=>⟨by rw [hh],hO⟩,fun _ _ _ h=>h⟩;obtain ⟨p,hp,hr⟩:=h.blk b own els hb;exact ⟨p,hp,hr.world (Ext.refl _) (by rw [hh])⟩
theorem Stp.alloc {φ:Phi}{m:Mem}{w w':World}(h:St φ m w){els:List (List V)}{z:Nat}(hwf:Wf z els){c:Array Value}{e:TypeId}{a y:List Value}
  (hc:c.toList=a++y) (ha:Rs φ els.flatten a) (hw:w'.heap=w.heap.push (.cells c e)) (h1:w'.os=w.os) (h2:w'.tape=w.tape) (h3:w'.output=w.output):
  Stp φ m w (φ.set m.length ⟨w.heap.size,0,z,c.size⟩) (m++[.cells true els]) w':=by
 have hn:=h.fresh m.length (Nat.le_refl _);have he:=Phi.set_ext ⟨w.heap.size,0,z,c.size⟩ hn;have hold: ∀B,B<w.heap.size->w'.heap[B]? =w.heap[B]? :=fun B hB=>by rw [hw,Array.getElem?_push,if_neg (by omega)]
 have hlt: ∀{b own els p},m[b]? =some (.cells own els)->φ b=some p->p.blk<w.heap.size:=by
  intro b own els p hb hp;obtain ⟨q,hq,hr⟩:=h.blk b own els hb;rw [hp] at hq;cases hq;exact hr.lt
 have blt: ∀{b:Nat}{x:Blk},m[b]? =some x->b≠m.length:=fun hb e=>by subst e;simp at hb
 obtain ⟨M1,M2,M3⟩:=h.maps (w':=w') (m':=m++[.cells true els]) he (fun b es hb=>by
  rcases mem_push hb with ⟨_,hb⟩|⟨_,hx⟩
  ·exact hb
  ·cases hx) (fun B _ _ g=>(hold B (Array.getElem?_eq_some_iff.1 g).1).trans g)
 refine zfo.to h ⟨he,⟨fun b hb=> ?_,fun b own els' hb=> ?_,fun b els1 b' own' els2 p p' hb hb' hne hp hp'=> ?_,M1,M2⟩,by simp,by rw [hw];simp,h1,h2,h3,fun B hB hO=>⟨hold B hB,?_⟩,fun b hb _ hnn=>by rw [Phi.set_other _ _ (by omega)];exact hnn⟩
 ·simp at hb
  rw [Phi.set_other _ _ (by omega)];exact h.fresh b (by omega)
 ·rcases mem_push hb with ⟨hlt',hb⟩|⟨rfl,hx⟩
  ·obtain ⟨p,hp,hr⟩:=h.blk b own els' hb
   exact ⟨p,he _ _ hp,hr.world he (hold _ hr.lt)⟩
  ·cases hx
   refine ⟨_,Phi.set_same _ _ _,hwf,c,e,(0,0),[],a,y,?_,rfl,fun _=>rfl,by simpa using hc,rfl,ha.ext he⟩;rw [hw]
   simp
 ·rcases mem_push hb with ⟨hl1,hb⟩|⟨e1,hx⟩<;>rcases mem_push hb' with ⟨hl2,hb'⟩|⟨e2,hx'⟩
  ·rw [Phi.set_other _ _ (by omega)] at hp hp'
   exact h.excl b els1 b' own' els2 p p' hb hb' hne hp hp'
  ·rw [Phi.set_other _ _ (by omega)] at hp
   subst e2;rw [Phi.set_same] at hp';cases hp';have:=hlt hb hp
   simp;omega
  ·rw [Phi.set_other _ _ (by omega)] at hp'
   subst e1;rw [Phi.set_same] at hp;cases hp;have:=hlt hb' hp'
   simp;omega
  ·omega
 ·rintro (⟨b,els',p,hb,hp,rfl⟩|hM)
  ·rcases mem_push hb with ⟨hl,hb⟩|⟨rfl,hx⟩
   ·rw [Phi.set_other _ _ (by omega)] at hp
    exact hO (.inl ⟨b,els',p,hb,hp,rfl⟩)
   ·rw [Phi.set_same] at hp;cases hp
    simp at hB
  ·exact hO (.inr (M3 _ hM))
theorem Stp.fill {φ:Phi}{m:Mem}{w w':World}(h:St φ m w){id:Nat}(hid:m[id]? =some .dead) (hn:φ id=none){els:List (List V)}{z:Nat}(hwf:Wf z els){c:Array Value}{e:TypeId}{a y:List Value}
  (hc:c.toList=a++y) (ha:Rs φ els.flatten a) (hw:w'.heap=w.heap.push (.cells c e)) (h1:w'.os=w.os) (h2:w'.tape=w.tape) (h3:w'.output=w.output):
  zgH (· =id) φ m w (φ.set id ⟨w.heap.size,0,z,c.size⟩) (m.set id (.cells true els)) w':=by
 have he:=Phi.set_ext ⟨w.heap.size,0,z,c.size⟩ hn;have hlen:id<m.length:=(List.getElem?_eq_some_iff.1 hid).1;have hold: ∀B,B<w.heap.size->w'.heap[B]? =w.heap[B]? :=fun B hB=>by rw [hw,Array.getElem?_push,if_neg (by omega)]
 have hlt: ∀{b own els p},m[b]? =some (.cells own els)->φ b=some p->p.blk<w.heap.size:=by
  intro b own els p hb hp;obtain ⟨q,hq,hr⟩:=h.blk b own els hb;rw [hp] at hq;cases hq;exact hr.lt
 have hget: ∀{b':Nat}{y:Blk},(m.set id (.cells true els))[b']? =some y->(b'=id/\y= .cells true els)\/(b'≠id/\m[b']? =some y):=by
  intro b' y hy
  by_cases hbb:b'=id
  ·subst hbb;simp [hlen] at hy;exact .inl ⟨rfl,hy.symm⟩
  ·rw [List.getElem?_set_ne (fun e=>hbb e.symm)] at hy;exact .inr ⟨hbb,hy⟩
 obtain ⟨M1,M2,M3⟩:=h.maps (w':=w') (m':=m.set id (.cells true els)) he (fun b es hb=>by
  rcases hget hb with ⟨_,hx⟩|⟨_,hb⟩
  ·cases hx
  ·exact hb) (fun B _ _ g=>(hold B (Array.getElem?_eq_some_iff.1 g).1).trans g)
 refine zfo.to h ⟨he,⟨fun b hb=> ?_,fun b own els' hb=> ?_,fun b els1 b' own' els2 p p' hb hb' hne hp hp'=> ?_,M1,M2⟩,by simp,by rw [hw];simp,h1,h2,h3,fun B hB hO=>⟨hold B hB,?_⟩,fun b hb hE hnn=>by rw [Phi.set_other _ _ hE];exact hnn⟩
 ·simp at hb
  rw [Phi.set_other _ _ (by omega)];exact h.fresh b (by omega)
 ·rcases hget hb with ⟨rfl,hx⟩|⟨hne,hb⟩
  ·cases hx
   refine ⟨_,Phi.set_same _ _ _,hwf,c,e,(0,0),[],a,y,?_,rfl,fun _=>rfl,by simpa using hc,rfl,ha.ext he⟩;rw [hw]
   simp
  ·obtain ⟨p,hp,hr⟩:=h.blk b own els' hb
   exact ⟨p,he _ _ hp,hr.world he (hold _ hr.lt)⟩
 ·rcases hget hb with ⟨e1,hx⟩|⟨n1,k1⟩<;>rcases hget hb' with ⟨e2,hx'⟩|⟨n2,k2⟩
  ·omega
  ·rw [Phi.set_other _ _ n2] at hp'
   subst e1;rw [Phi.set_same] at hp;cases hp;have:=hlt k2 hp'
   simp;omega
  ·rw [Phi.set_other _ _ n1] at hp
   subst e2;rw [Phi.set_same] at hp';cases hp';have:=hlt k1 hp
   simp;omega
  ·rw [Phi.set_other _ _ n1] at hp
   rw [Phi.set_other _ _ n2] at hp';exact h.excl b els1 b' own' els2 p p' k1 k2 hne hp hp'
 ·rintro (⟨b,els',p,hb,hp,rfl⟩|hM)
  ·rcases hget hb with ⟨rfl,_⟩|⟨hne,hb⟩
   ·rw [Phi.set_same] at hp;cases hp
    simp at hB
   ·rw [Phi.set_other _ _ hne] at hp
    exact hO (.inl ⟨b,els',p,hb,hp,rfl⟩)
  ·exact hO (.inr (M3 _ hM))
theorem Stp.new {φ:Phi}{m m':Mem}{w w':World}(h:St φ m w){tgt:Option Nat}{id:Nat}{els:List (List V)}(hnb:zaE m tgt (.cells true els)=some (id,m')) (hn: ∀i,tgt=some i->φ i=none){z:Nat}(hwf:Wf z els){c:Array Value}{e:TypeId}{a y:List Value}
  (hc:c.toList=a++y) (ha:Rs φ els.flatten a) (hw:w'.heap=w.heap.push (.cells c e)) (h1:w'.os=w.os) (h2:w'.tape=w.tape) (h3:w'.output=w.output):
  zgH (fun b=>tgt=some b) φ m w (φ.set id ⟨w.heap.size,0,z,c.size⟩) m' w':=by
 cases tgt with
 |none=>
  simp only [zaE,Option.some.injEq,Prod.mk.injEq] at hnb;obtain ⟨rfl,rfl⟩:=hnb;exact zgH.weaken (fun _ h=>h.elim) (Stp.alloc h hwf hc ha hw h1 h2 h3)
 |some i=>
  simp only [zaE] at hnb
  split at hnb
  ·rename_i hd
   simp only [Option.some.injEq,Prod.mk.injEq] at hnb;obtain ⟨rfl,rfl⟩:=hnb;exact zgH.weaken (fun _ h=>by rw [h]) (Stp.fill h hd (hn i rfl) hwf hc ha hw h1 h2 h3)
  ·cases hnb
theorem Stp.keep {φ:Phi}{m:Mem}{w:World}(h:St φ m w) (k:Nat):Stp φ m w φ (m++List.replicate k .dead) w:=by
 have hget': ∀{b':Nat}{y:Blk},y≠ .dead->(m++List.replicate k Blk.dead)[b']? =some y->m[b']? =some y:=by
  intro b' y hnd hy;rcases Nat.lt_or_ge b' m.length with hb|hb
  ·rwa [List.getElem?_append_left hb] at hy
  ·rw [List.getElem?_append_right hb,List.getElem?_replicate] at hy
   split at hy
   ·cases hy;exact absurd rfl hnd
   ·cases hy
 have hget: ∀{b':Nat}{own:Bool}{els:List (List V)},(m++List.replicate k Blk.dead)[b']? =some (.cells own els)->m[b']? =some (.cells own els):=fun h=>hget' (by simp) h
 obtain ⟨M1,M2,M3⟩:=h.maps (w':=w) (m':=m++List.replicate k .dead) (Ext.refl _) (fun b es hb=>hget' (by simp) hb) (fun _ _ _ g=>g);exact zfo.to h ⟨Ext.refl _,⟨fun b' hb'=>h.fresh b' (by simp at hb';omega),fun b' own els hb'=>h.blk b' own els (hget hb'),
  fun b1 els1 b2 own2 els2 p1 p2 hb1 hb2=>h.excl b1 els1 b2 own2 els2 p1 p2 (hget hb1) (hget hb2),M1,M2⟩,by simp,Nat.le_refl _,rfl,rfl,rfl,
  fun B hB hO=>⟨rfl,fun hQ=>hO (hQ.imp (fun ⟨b',els,p,hb',hp,e⟩=>⟨b',els,p,hget hb',hp,e⟩) (M3 _))⟩,fun _ _ _ h=>h⟩
theorem Stp.write {φ:Phi}{m:Mem}{w w':World}(h:St φ m w){b:Nat}{els els':List (List V)}{p:PL}(hb:m[b]? =some (.cells true els)) (hp:φ b=some p)
  (hwf:Wf p.esz els'){c:Array Value}{e:TypeId}{x a y:List Value}(hc:c.toList=x++(a++y)) (hx:x.length=p.base) (hs:c.size=p.size) (ha:Rs φ els'.flatten a)
  (hw:w'.heap[p.blk]? =some (.cells c e (0,0))) (hother: ∀B,B≠p.blk->w'.heap[B]? =w.heap[B]?) (hsz:w'.heap.size=w.heap.size)
  (h1:w'.os=w.os) (h2:w'.tape=w.tape) (h3:w'.output=w.output):Stp φ m w φ (m.set b (.cells true els')) w':=by
 have hlen:b<m.length:=(List.getElem?_eq_some_iff.1 hb).1;have hget: ∀{b':Nat}{y:Blk},(m.set b (.cells true els'))[b']? =some y->(b'=b/\y= .cells true els')\/(b'≠b/\m[b']? =some y):=by
  intro b' y hy
  by_cases hbb:b'=b
  ·subst hbb;simp [hlen] at hy;exact .inl ⟨rfl,hy.symm⟩
  ·rw [List.getElem?_set_ne (fun e=>hbb e.symm)] at hy;exact .inr ⟨hbb,hy⟩
 obtain ⟨M1,M2,M3⟩:=h.maps (w':=w') (m':=m.set b (.cells true els')) (Ext.refl _) (fun b' es hb'=>by
  rcases hget hb' with ⟨_,hx⟩|⟨_,hb'⟩
  ·cases hx
  ·exact hb') (fun B _ _ g=>(hother B (fun e=>by
   obtain ⟨q,hq,hr⟩:=h.blk b true els hb;rw [hp] at hq;cases hq;obtain ⟨_,_,_,_,_,_,hl,_⟩:=hr.lay;rw [e,hl] at g;cases g)).trans g)
 refine zfo.to h ⟨Ext.refl _,⟨fun b' hb'=>h.fresh b' (by simpa using hb'),fun b' own els2 hb'=> ?_,fun b1 els1 b2 own2 els2 p1 p2 hb1 hb2 hne hp1 hp2=> ?_,M1,M2⟩,by simp,by omega,h1,h2,h3,fun B hB hO=>⟨?_,?_⟩,fun _ _ _ h=>h⟩
 ·rcases hget hb' with ⟨rfl,e'⟩|⟨hne,hb'⟩
  ·cases e'
   exact ⟨p,hp,hwf,c,e,(0,0),x,a,y,hw,hs,fun _=>rfl,hc,hx,ha⟩
  ·obtain ⟨q,hq,hr⟩:=h.blk b' own els2 hb'
   exact ⟨q,hq,hr.world (Ext.refl _) (hother _ (fun e=>h.excl b els b' own els2 p q hb hb' (fun e=>hne e.symm) hp hq e.symm))⟩
 ·rcases hget hb1 with ⟨g1,e1⟩|⟨n1,k1⟩<;>rcases hget hb2 with ⟨g2,e2⟩|⟨n2,k2⟩
  ·omega
  ·subst g1;exact h.excl b1 els b2 own2 els2 p1 p2 hb k2 hne hp1 hp2
  ·subst g2
   have:=h.excl b2 els b1 true els1 p2 p1 hb k1 (fun e=>hne e.symm) hp2 hp1;exact fun e=>this e.symm
  ·exact h.excl b1 els1 b2 own2 els2 p1 p2 k1 k2 hne hp1 hp2
 ·exact hother B (fun e=>hO (.inl ⟨b,els,p,hb,hp,e.symm⟩))
 ·rintro (⟨b',els2,q,hb',hq,rfl⟩|hM)
  ·rcases hget hb' with ⟨rfl,_⟩|⟨_,hb'⟩
   ·exact hO (.inl ⟨b',els,q,hb,hq,rfl⟩)
   ·exact hO (.inl ⟨b',els2,q,hb',hq,rfl⟩)
  ·exact hO (.inr (M3 _ hM))
theorem Stp.kill {φ:Phi}{m:Mem}{w:World}(h:St φ m w) (b:Nat):Stp φ m w φ (m.set b .dead) w:=by
 have hget': ∀{b':Nat}{y:Blk},y≠ .dead->(m.set b .dead)[b']? =some y->m[b']? =some y:=by
  intro b' y hnd hy
  by_cases hbb:b'=b
  ·subst hbb
   by_cases hl:b'<m.length
   ·simp [hl] at hy;exact absurd hy.symm hnd
   ·rw [List.getElem?_eq_none (by simp;omega)] at hy;cases hy
  ·rwa [List.getElem?_set_ne (fun e=>hbb e.symm)] at hy
 have hget: ∀{b':Nat}{own:Bool}{els:List (List V)},(m.set b .dead)[b']? =some (.cells own els)->m[b']? =some (.cells own els):=fun h=>hget' (by simp) h
 obtain ⟨M1,M2,M3⟩:=h.maps (w':=w) (m':=m.set b .dead) (Ext.refl _) (fun b es hb=>hget' (by simp) hb) (fun _ _ _ g=>g);exact zfo.to h ⟨Ext.refl _,⟨fun b' hb'=>h.fresh b' (by simpa using hb'),fun b' own els hb'=>h.blk b' own els (hget hb'),
  fun b1 els1 b2 own2 els2 p1 p2 hb1 hb2=>h.excl b1 els1 b2 own2 els2 p1 p2 (hget hb1) (hget hb2),M1,M2⟩,by simp,Nat.le_refl _,rfl,rfl,rfl,
  fun B hB hO=>⟨rfl,fun hQ=>hO (hQ.imp (fun ⟨b',els,p,hb',hp,e⟩=>⟨b',els,p,hget hb',hp,e⟩) (M3 _))⟩,fun _ _ _ h=>h⟩
theorem Stp.rename {φ:Phi}{m:Mem}{w:World}(h:St φ m w){b:Nat}{els:List (List V)}{p:PL}(hb:m[b]? =some (.cells true els)) (hp:φ b=some p) (i:Nat) (hi:i<=els.length):
  Stp φ m w (φ.set m.length ⟨p.blk,p.base+i*p.esz,p.esz,p.size⟩) (m.set b .dead++[.cells true (els.drop i)]) w:=by
 have hlen:b<m.length:=(List.getElem?_eq_some_iff.1 hb).1;have hn:=h.fresh m.length (Nat.le_refl _);have he:=Phi.set_ext ⟨p.blk,p.base+i*p.esz,p.esz,p.size⟩ hn;obtain ⟨q,hq,hr⟩:=h.blk b true els hb;rw [hp] at hq;cases hq;have hget: ∀{b':Nat}{own:Bool}{els1:List (List V)},(m.set b .dead++[.cells true (els.drop i)])[b']? =some (.cells own els1)->
   (b'<m.length/\b'≠b/\m[b']? =some (.cells own els1))\/(b'=m.length/\own=true/\els1=els.drop i):=by
  intro b' own els1 hy;rcases mem_push hy with ⟨hl,hy⟩|⟨e,hy⟩
  ·simp at hl
   by_cases hbb:b'=b
   ·subst hbb;simp [hl] at hy
   ·rw [List.getElem?_set_ne (fun e=>hbb e.symm)] at hy;exact .inl ⟨hl,hbb,hy⟩
  ·cases hy;exact .inr ⟨by simpa using e,rfl,rfl⟩
 obtain ⟨M1,M2,M3⟩:=h.maps (w':=w) (m':=m.set b .dead++[.cells true (els.drop i)]) he (fun b' es hb'=>by
  rcases mem_push hb' with ⟨hl,hy⟩|⟨_,hx⟩
  ·by_cases hbb:b'=b
   ·subst hbb;simp [hlen] at hy
   ·rwa [List.getElem?_set_ne (fun e=>hbb e.symm)] at hy
  ·cases hx) (fun _ _ _ g=>g)
 refine zfo.to h ⟨he,⟨fun b' hb'=> ?_,fun b' own els1 hb'=> ?_,fun b1 els1 b2 own2 els2 p1 p2 hb1 hb2 hne hp1 hp2=> ?_,M1,M2⟩,by simp,Nat.le_refl _,rfl,rfl,rfl,fun B hB hO=>⟨rfl,?_⟩,fun b hb _ hnn=>by rw [Phi.set_other _ _ (by omega)];exact hnn⟩
 ·simp at hb'
  rw [Phi.set_other _ _ (by omega)];exact h.fresh b' (by omega)
 ·rcases hget hb' with ⟨hl,_,hb'⟩|⟨rfl,rfl,rfl⟩
  ·obtain ⟨q,hq,hr⟩:=h.blk b' own els1 hb'
   exact ⟨q,he _ _ hq,hr.world he rfl⟩
  ·refine ⟨_,Phi.set_same _ _ _,fun el hel=>hr.wf el (List.mem_of_mem_drop hel),?_⟩
   obtain ⟨c,e,fr,x,a,y,g1,g2,g3,g4,g5,g6⟩:=hr.lay;have hsp:els.flatten=(els.take i).flatten++(els.drop i).flatten:=by rw [<-List.flatten_append,List.take_append_drop]
   rw [hsp] at g6;obtain ⟨a1,a2,rfl,k1,k2⟩:=g6.split;refine ⟨c,e,fr,x++a1,a2,y,g1,g2,g3,by simp [g4],?_,k2.ext he⟩;have hl:a1.length=i*p.esz:=by
    rw [k1.len,List.length_flatten];have: ∀(l:List (List V)),(∀el∈l,el.length=p.esz)->(l.map List.length).sum=l.length*p.esz:=by
     intro l
     induction l with
     |nil=>simp
     |cons e l ih=>intro hl;simp [ih (fun el hel=>hl el (by simp [hel])),hl e (by simp),Nat.add_mul];omega
    rw [this _ (fun el hel=>(hr.wf el (List.mem_of_mem_take hel)).1),List.length_take,Nat.min_eq_left hi]
   simp [g5,hl]
 ·rcases hget hb1 with ⟨l1,n1,hb1⟩|⟨e1,_,_⟩<;>rcases hget hb2 with ⟨l2,n2,hb2⟩|⟨e2,_,_⟩
  ·rw [Phi.set_other _ _ (by omega)] at hp1 hp2
   exact h.excl b1 els1 b2 own2 els2 p1 p2 hb1 hb2 hne hp1 hp2
  ·rw [Phi.set_other _ _ (by omega)] at hp1
   subst e2;rw [Phi.set_same] at hp2;cases hp2;exact h.excl b1 els1 b true els p1 p hb1 hb n1 hp1 hp
  ·rw [Phi.set_other _ _ (by omega)] at hp2
   subst e1;rw [Phi.set_same] at hp1;cases hp1;exact h.excl b els b2 own2 els2 p p2 hb hb2 (fun e=>n2 e.symm) hp hp2
  ·omega
 ·rintro (⟨b',els1,q,hb',hq,rfl⟩|hM)
  ·rcases hget hb' with ⟨hl,_,hb'⟩|⟨rfl,_,_⟩
   ·rw [Phi.set_other _ _ (by omega)] at hq
    exact hO (.inl ⟨b',els1,q,hb',hq,rfl⟩)
   ·rw [Phi.set_same] at hq;cases hq
    exact hO (.inl ⟨b,els,p,hb,hp,rfl⟩)
  ·exact hO (.inr (M3 _ hM))
end Go.AM
