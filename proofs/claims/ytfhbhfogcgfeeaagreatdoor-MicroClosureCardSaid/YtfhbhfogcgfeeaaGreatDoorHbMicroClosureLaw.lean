import Derived.Test.YtfhbhfogcgfeeaaGreatDoorHbJ
import Derived.Test.YtfhbhfogcgfeeaaGreatDoorTie
import Derived.Test.YtfhbhfogcgfeeaaGreatDoorCards
import Derived.SevenTiedAt
import Derived.LaidLaws
import Derived.Handed
import Derived.Stop.Joined
set_option linter.unusedVariables false
set_option linter.unusedSimpArgs false
namespace Go.Proofs.YtfhbhfogcgfeeaaGreatDoor.microClosure
open Go Go.AM Go.AM.G
open Go.ChangeShapes Go.WideShapes Go.ChangeAt Go.RowKit
theorem own:ownKnob Tryz.prog.godebug=none:=by kernel_rfl
theorem laidOut:laidOutB Tryz.prog=true:=by kernel_rfl
set_option maxRecDepth 100000 in
set_option maxHeartbeats 1000000 in
theorem lifted (os:Os) (started:os.Started) (H:Type) (enc:TypeId×Value->H):
  ReturnsInHanded {} Tryz.checked os 8 .any (fun w args=>(Rows.microClosureSpec.pre enc Tryz.prog Tryz.f8 [] false w args/\laidMetH Tryz.prog HbF.laidB w)/\sizedMet enc Tryz.prog Tryz.f8 (OpenSpec.ofChange Rows.microClosureSpec) false w args) (Rows.microClosureSpec.post enc Tryz.prog Tryz.f8 false true false false):=by
 refine returnsInHanded_of_change_and (C:=Tryz.checked) (X:=fun w _=>laidMetH Tryz.prog HbF.laidB w) (fun _ _ _ hh h=>h.of_heap hh) own started (by kernel_rfl) Tryz.func8
  (ChangeSpec.witness_shaped (enc:=enc) (C:=Tryz.checked) (os:=os) (X:=fun w _=>laidMetH Tryz.prog HbF.laidB w) false (World.doorLaid Tryz.prog 14 os) #[.agg #[.slice none 0 0,.int .i64 0,.slice none 0 0,.slice none 0 0],.int .i64 0,.slice none 0 0,.slice none 0 0,.slice none 0 0] 9 rfl (World.shaped_of_RefB (by kernel_rfl) (by kernel_rfl)) (by kernel_rfl) (by kernel_rfl) (by kernel_rfl) (HbF.door_met os _)) ?_
 intro W base args ds gs before hval0 hW hcnd hsz0 hL _;have hsz:(DataW.weightsEach Tryz.prog (Tryz.f8.params.toList++Rows.microClosureSpec.plain.varTypes Tryz.prog) (ds++gs)).all (· <=reachBytes)=true:=hsz0;have hval: ∀(j:Nat) t v,Tryz.f8.params[j]? =some t->args[j]? =some v->Value.okWide Tryz.prog W .any base t v:=hval0;have hW':=hW;obtain ⟨p,q,hA0,hV,rfl,hfz,hnd⟩:=hW;have hA:DataW.TrodAll enc Tryz.prog W 0 (fun _=>true) true Tryz.f8.params.toList args.toList ds p:=hA0;rw [Tryz.params8] at hA hval hsz;obtain ⟨v0,vs0,d0,ds0,p0,q0,hargs,rfl,rfl,h0,r0⟩:=trodAll_cons hA;obtain ⟨v1,vs1,d1,ds1,p1,q1,rfl,rfl,rfl,h1,r1⟩:=trodAll_cons r0;obtain ⟨v2,vs2,d2,ds2,p2,q2,rfl,rfl,rfl,h2,r2⟩:=trodAll_cons r1;obtain ⟨v3,vs3,d3,ds3,p3,q3,rfl,rfl,rfl,h3,r3⟩:=trodAll_cons r2;obtain ⟨v4,vs4,d4,ds4,p4,q4,rfl,rfl,rfl,h4,r4⟩:=trodAll_cons r3;obtain ⟨rfl,rfl,rfl⟩:=trodAll_nil r4;obtain rfl:args= #[v0,v1,v2,v3,v4]:=by cases args;simp_all
 obtain ⟨rfl,rfl⟩:=trodVars_none hV;have k0:=h0;have lt0: ∀x∈p0,x.block<W.heap.size:=by obtain ⟨m,hm⟩:=k0;exact DataW.trod_lt m _ _ _ hm
 have k2:=h2;have lt2: ∀x∈p2,x.block<W.heap.size:=by obtain ⟨m,hm⟩:=k2;exact DataW.trod_lt m _ _ _ hm
 have k3:=h3;have lt3: ∀x∈p3,x.block<W.heap.size:=by obtain ⟨m,hm⟩:=k3;exact DataW.trod_lt m _ _ _ hm
 have k4:=h4;have lt4: ∀x∈p4,x.block<W.heap.size:=by obtain ⟨m,hm⟩:=k4;exact DataW.trod_lt m _ _ _ hm
 obtain ⟨a1,rfl,rfl,rfl,w1⟩:=open_int Tryz.underlying3 (hval 1 3 v1 rfl rfl) h1;obtain ⟨u0,l0,φ0,m0,ex0,gr0,st0,ro0,rr0,sl0,len0⟩:=HbF.read_heap (j:=0) (hval 0 31 v0 rfl rfl) h0 hsz rfl rfl (St.nil W (HbF.lay_of hL)) RO.nil;obtain ⟨u2,l2,φ2,m2,ex2,gr2,st2,ro2,rr2,sl2,len2⟩:=HbF.read_nus (j:=2) (hval 2 22 v2 rfl rfl) h2 hsz rfl rfl st0 ro0;obtain ⟨u3,l3,φ3,m3,ex3,gr3,st3,ro3,rr3,sl3,len3⟩:=HbF.read_bytes (j:=3) (hval 3 58 v3 rfl rfl) h3 hsz rfl rfl st2 ro2;obtain ⟨u4,l4,φ4,m4,ex4,gr4,st4,ro4,rr4,sl4,len4⟩:=HbF.read_ints (j:=4) (hval 4 52 v4 rfl rfl) h4 hsz rfl rfl st3 ro3;clear hA0 hval0 hsz0 hsz;replace rr0:=rr0.ext ex2;replace sl0:=sl0.grow gr2;replace rr0:=rr0.ext ex3;replace sl0:=sl0.grow gr3;replace rr0:=rr0.ext ex4;replace sl0:=sl0.grow gr4;replace rr2:=rr2.ext ex3;replace sl2:=sl2.grow gr3;replace rr2:=rr2.ext ex4;replace sl2:=sl2.grow gr4;replace rr3:=rr3.ext ex4;replace sl3:=sl3.grow gr4;refine (HbF.law_calls (HbF.microClosure_law sl0 sl2 len2 sl3 len3 sl4 len4) (cargs:=[v0,.int .i64 a1,v2,v3,v4]) st4 (Rs.cons rr0 (Rs.cons R.int (Rs.cons rr2 (Rs.cons rr3 (Rs.cons rr4 Rs.nil))))) ro4).mono fun e W' ⟨he,bel⟩=> ?_
 subst he;exact ⟨_,rfl,_,_,_,[],_,[],hW',trodAll_mk1 (shut_bool Tryz.underlying4 _),(trodAll_cons_mk (Below.trod laidOut (by kernel_rfl) (of_decide_eq_true (by kernel_rfl)) k0 bel lt0) (trodAll_cons_mk (shut_int Tryz.underlying3 w1) (trodAll_cons_mk (Below.trod laidOut (by kernel_rfl) (of_decide_eq_true (by kernel_rfl)) k2 bel lt2) (trodAll_cons_mk (Below.trod laidOut (by kernel_rfl) (of_decide_eq_true (by kernel_rfl)) k3 bel lt3) (trodAll_cons_mk (Below.trod laidOut (by kernel_rfl) (of_decide_eq_true (by kernel_rfl)) k4 bel lt4) trodAll_mk0))))),rfl,bel.frame _,fun h=>by cases h⟩
theorem over:Rows.microClosureRow.holds Tryz.pinned (OpenSpec.ofChange Rows.microClosureSpec):=
 OpenClaim.holds_of_wide 8 Tryz.f8 rfl rfl rfl rfl rfl rfl rfl ⟨rfl,rfl,rfl,rfl,rfl⟩ rfl rfl rfl rfl rfl (by kernel_rfl) Tryz.func8 (by kernel_rfl)
  (of_decide_eq_true (by kernel_rfl)) (by unfold Func.isWrapper;first|(rw [if_pos (by decide+kernel)];kernel_rfl)|(rw [if_neg (by decide+kernel)];exact ⟨rfl,rfl⟩))
  (fun os started H enc _=>lifted os started H enc)
theorem proved:Rows.MicroClosureSaid:=over
end Go.Proofs.YtfhbhfogcgfeeaaGreatDoor.microClosure
namespace Go.Proofs.YtfhbhfogcgfeeaaGreatDoor
open Go
theorem microClosure_holds:Rows.MicroClosureCardSaid:=
 Claim7.holds_tied_plain_at .later [] [.data] true (true, "fc1c64e03e07af0466f840ffa61ceb5997e75c671db2c5a0169fa13828c2f0fa") false
  microClosure.proved (fun _ h=>by cases h) (by kernel_rfl) (fun _ h=>by cases h) microClosure_row_tie rfl ⟨rfl,rfl⟩ (by kernel_rfl) rfl
  (fun f fn hf hfn=>by
   obtain rfl:f=8:=Option.some.inj ((show Tryz.prog.funcNamed "besom/besomlaw27.MicroClosure" =some 8 by kernel_rfl).symm.trans hf) |>.symm;obtain rfl:fn=Tryz.f8:=(Option.some.inj (Tryz.func8.symm.trans hfn)).symm;exact ⟨by kernel_rfl,fun j t ht=>by
    rw [Tryz.params8] at ht;have hm:t∈([31,3,22,58,52]:List TypeId):=by simpa using Array.mem_of_getElem? ht
    have hall:(([31,3,22,58,52]:List TypeId).all fun u=> !Tryz.prog.wantsStandIn u)=true:=by kernel_rfl
    exact (show Tryz.prog.wantsStandIn t=false by simpa using List.all_eq_true.1 hall t hm)⟩)
  (by kernel_rfl)
#print axioms microClosure_holds
end Go.Proofs.YtfhbhfogcgfeeaaGreatDoor
