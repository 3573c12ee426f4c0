/- What the functions compute, and the law. No condition. -/
import Derived.Test.YtfoelbdkgaliaaaPaPX
import Derived.Test.YtfoelbdkgaliaaaPaVG
import Derived.Test.YtfoelbdkgaliaaaRows
set_option linter.unusedSectionVars false
set_option linter.unusedVariables false
set_option linter.unusedSimpArgs false
section
namespace TableS
open Go Go.Dam Go.Proofs Go.RowKit Go.ChangeShapes Go.WideShapes
set_option maxRecDepth 1000000
def aaD (Q:Pt):Prop:=vk Q.te∧jV Q.ov∧ZW Q.oa∧okW Q.U∧okW Q.E∧(∀ i,i<Q.rv.length→vk (Q.rv.getD i 0))∧ZW Q.ta∧ZW Q.tl∧ZW Q.tc
def JI:List FK:= .one (.int .u32)::(List.replicate 14 (.one (.int .i64)) ++ .one (.int .u64)::(QA ++ (QA ++ [.row [.int .u32], .one (.int .u64), .one (.int .u64), .one (.int .u64)])))
def PD:List IntKind:=[.i64, .i64, .i64, .i64, .i64, .i64, .i64, .i64, .i64]
theorem uz {w:World}:∀ {ks ks':List FK} {vs:List Value},ig w (ks ++ ks') vs→∃ a b,vs=a ++ b∧ig w ks a∧ig w ks' b
 |[],_,vs,h=>⟨[],vs,rfl,trivial,h⟩
 |k::ks,ks',vs,h=>by
  obtain⟨v,vs,rfl,h0,h⟩:=bY h
  obtain⟨a,b,rfl,h1,h2⟩:=uz h
  exact⟨v::a,b,rfl,⟨h0,h1⟩,h2⟩
theorem Fb {w:World}:∀ {n:Nat} {vs:List Value},ig w (List.replicate n (.one (.int .i64))) vs→∃ ns:List Int,ns.length=n∧vs=ns.map (Value.int .i64)∧∀ x∈ns,jV x
 |0,vs,h=>by cases vs with | nil=>exact⟨[],rfl,rfl,by simp⟩ | cons=>cases h
 |n+1,vs,h=>by
  rw[List.replicate_succ] at h
  obtain⟨v,vs,rfl,h0,h'⟩:=bY h
  obtain⟨m,e,hw⟩:=h0
  subst e
  obtain⟨ns,rfl,rfl,hn⟩:=Fb h'
  exact⟨m::ns,rfl,rfl,fun x hx=>by rcases List.mem_cons.1 hx with e | hx;· { rw[e];exact wf_i64 hw };· exact hn x hx⟩
theorem BV {w:World} {v:Value} (h:(FK.one (.int .u64)).ok w v):∃ n,v= .int .u64 n∧ZW n:=by
 obtain⟨n,e,hw⟩:=h;exact⟨n,e,wf_u64 hw⟩
theorem xO {w:World} {A:Nat→Prop}:∀ {ds es:List D} {a b:List Value},dD w A ds a→dD w A es b→dD w A (ds ++ es) (a ++ b)
 |[],es,a,b,h,k=>by simp only[dD] at h;subst h;exact k
 |d::ds,es,a,b,h,k=>by
  simp only[dD] at h
  obtain⟨x,xs,rfl,h1,h2⟩:=h
  simp only[List.cons_append,dD]
  exact⟨x,xs ++ b,rfl,h1,xO h2 k⟩
theorem oz {w:World} {A:Nat→Prop}:∀ ns:List Int,dD w A (ns.map fun n=>i64 n) (ns.map (Value.int .i64))
 |[]=>by simp[dD]
 |n::ns=>by simp only[List.map_cons,dD];exact⟨_,_,rfl,by simp[aC],oz ns⟩
theorem abu {w:World} {vs:List Value} (h:ig w JI vs):∃ Q:Pt,aaD Q∧aC w (fun k=>k<w.heap.size) Q.d (.agg vs.toArray):=by
 unfold JI at h
 obtain⟨v0,vs,rfl,h0,g1⟩:=bY (k:= .one (.int .u32)) h
 clear h
 obtain⟨te,rfl,wte⟩:=h0
 obtain⟨a,vs,rfl,h1,g2⟩:=uz (ks:=List.replicate 14 (.one (.int .i64))) g1
 clear g1
 obtain⟨ns,hl,rfl,hns⟩:=Fb h1
 obtain⟨v2,vs,rfl,h2,g3⟩:=bY g2
 clear g2
 obtain⟨oa,rfl,woa⟩:=BV h2
 obtain⟨us,vs,rfl,hu,g4⟩:=uz g3
 clear g3
 obtain⟨es,vs,rfl,he,g5⟩:=uz g4
 clear g4
 obtain⟨U,wU,rU⟩:=LJ hu
 obtain⟨E,wE,rE⟩:=LJ he
 obtain⟨v3,vs,rfl,h3,g6⟩:=bY g5
 clear g5
 obtain⟨v4,vs,rfl,h4,g7⟩:=bY g6
 clear g6
 obtain⟨v5,vs,rfl,h5,g8⟩:=bY g7
 clear g7
 obtain⟨v6,vs,rfl,h6,h⟩:=bY g8
 clear g8
 have:vs=[]:=by cases vs with | nil=>rfl | cons=>cases h
 subst this
 obtain⟨rv,r3,k3⟩:=rZ h3
 obtain⟨ta,rfl,wta⟩:=BV h4
 obtain⟨tl,rfl,wtl⟩:=BV h5
 obtain⟨tc,rfl,wtc⟩:=BV h6
 match ns,hl with
 |[n0,n1,n2,n3,n4,n5,n6,n7,n8,n9,n10,n11,n12,n13],_=>
  refine⟨⟨te,n0,n1,n2,n3,n4,n5,n6,n7,n8,n9,n10,n11,n12,n13,oa,U,E,rv,ta,tl,tc⟩,⟨wf_u32 wte,hns _ (by simp),woa,wU,wE,fun i hi=>wf_u32 (k3 i hi),wta,wtl,wtc⟩,?_⟩
  have rU':dD w (fun k=>k<w.heap.size) U.fs us:=by
   unfold Tb.d at rU
   simp only[aC] at rU
   obtain⟨x,e,r⟩:=rU
   have:x=us:=by simpa using e.symm
   rw[←this];exact r
  have rE':dD w (fun k=>k<w.heap.size) E.fs es:=by
   unfold Tb.d at rE
   simp only[aC] at rE
   obtain⟨x,e,r⟩:=rE
   have:x=es:=by simpa using e.symm
   rw[←this];exact r
  have key:dD w (fun k=>k<w.heap.size) (u32 te::([n0,n1,n2,n3,n4,n5,n6,n7,n8,n9,n10,n11,n12,n13].map (fun n=>i64 n) ++ u64 oa::(U.fs ++ (E.fs ++ [ru rv,u64 ta,u64 tl,u64 tc]))))
    (.int .u32 te::([n0,n1,n2,n3,n4,n5,n6,n7,n8,n9,n10,n11,n12,n13].map (Value.int .i64) ++ .int .u64 oa::(us ++ (es ++ [v3, .int .u64 ta, .int .u64 tl, .int .u64 tc])))):=by
   simp only[dD]
   refine⟨_,_,rfl,by simp[aC],xO (oz _) ?_⟩
   simp only[dD]
   refine⟨_,_,rfl,by simp[aC],xO rU' (xO rE' ?_)⟩
   simp only[dD]
   exact⟨_,_,rfl,r3,_,_,rfl,by simp[aC],_,_,rfl,by simp[aC],_,_,rfl,by simp[aC],rfl⟩
  unfold Pt.d
  simp only[aC]
  exact⟨_,rfl,key⟩
end TableS
end

section
namespace TableS
open Go Go.Dam Go.Proofs
set_option maxRecDepth 1000000
theorem TU {T:Tb} (w:Be T) (b r p a:Int):Be (dm T b r p a):=by
 unfold dm;split
 ·obtain⟨h1,⟨k1,k2,k3,k4,k5,k6⟩,h3,h4,h5,h6,h7⟩:=w
  refine⟨h1,⟨?_,?_,?_,?_,?_,?_⟩,h3,h4,h5,h6,h7⟩<;>simp only[Tb.lim,uh]<;>omega
 ·exact QS
theorem RP:Gh q0:=⟨QS,QS,by decide⟩
theorem adO {Q:Pt} (h:Gh Q) (b0 r0 p0 b1 r1 p1 b2 r2 p2 a:Int):Gh (O0 Q b0 r0 p0 b1 r1 p1 b2 r2 p2 a):=by
 unfold O0;split
 ·exact⟨TU h.1 _ _ _ _,TU h.2.1 _ _ _ _,h.2.2⟩
 ·exact RP
theorem adu {Q:Pt} (h:Gh Q):Gh (LH Q):=by
 unfold LH;split
 ·exact⟨h.1,h.2.1,by simp⟩
 ·exact RP
theorem adD {Q:Pt} (h:Gh Q) (u:Int):Gh (Lm Q u):=by
 unfold Lm;split
 next c=>
  split
  ·exact h
  ·split
   ·exact RP
   ·refine⟨h.1,h.2.1,?_⟩
    have:=BK Q.rv u (NK Q.rv u)
    have:=(D7 c).2.2.2.2.2.2.2.2.1
    simp only;omega
 ·exact RP
theorem Zh {Q:Pt} (h:aaD Q) (g:Q.great=false):uJ Q:=by
 obtain⟨_,hv,_,hU,hE,_⟩:=h
 simp only[Pt.great,Bool.or_eq_false_iff,decide_eq_false_iff_not] at g
 exact⟨hv,YD hU g.1,YD hE g.2.1,by omega⟩
theorem afi {Q:Pt} (h:aaD Q) (g:Q.great=false) {a:Int} (ha:ZW a):liS Q a:=by
 have ho:=Zh h g
 obtain⟨_,_,ha',hU,hE,_⟩:=h
 obtain⟨_,_,_,_,_,_,_,_,_,_,h6⟩:=hU
 obtain⟨_,_,_,_,_,_,_,_,_,_,h7⟩:=hE
 exact⟨ho,⟨ho.2.1,h6,ha⟩,⟨ho.2.2.1,h7,ha⟩,ha'⟩
end TableS
end

section
namespace TableS
open Go Go.Dam Go.Proofs
set_option maxRecDepth 1000000
def Bh (Z:Pt):List Prop:=[ah [.ints .u32 Z.U.ks]=ah [.ints .u32 Z.U.ks],ah [.ints .i64 Z.U.x1, .ints .i64 Z.U.x2, .ints .i64 Z.U.x3, .ints .i64 Z.U.x4, .ints .i64 Z.U.x5, .ints .u64 Z.U.x6]=ah [.ints .i64 Z.U.x1, .ints .i64 Z.U.x2, .ints .i64 Z.U.x3, .ints .i64 Z.U.x4, .ints .i64 Z.U.x5, .ints .u64 Z.U.x6],ah [.ints .i64 Z.U.nx]=ah [.ints .i64 Z.U.nx],ah [.bools Z.U.us]=ah [.bools Z.U.us],ah [.ints .u32 Z.U.kx, .ints .i64 Z.U.px, .bools Z.U.ux]=ah [.ints .u32 Z.U.kx, .ints .i64 Z.U.px, .bools Z.U.ux],ah [.ints .i64 Z.U.ps]=ah [.ints .i64 Z.U.ps],ah [.ints .i64 Z.U.no]=ah [.ints .i64 Z.U.no],ah [.ints .u32 Z.E.ks]=ah [.ints .u32 Z.E.ks],ah [.ints .i64 Z.E.x1, .ints .i64 Z.E.x2, .ints .i64 Z.E.x3, .ints .i64 Z.E.x4, .ints .i64 Z.E.x5, .ints .u64 Z.E.x6]=ah [.ints .i64 Z.E.x1, .ints .i64 Z.E.x2, .ints .i64 Z.E.x3, .ints .i64 Z.E.x4, .ints .i64 Z.E.x5, .ints .u64 Z.E.x6],ah [.ints .i64 Z.E.nx]=ah [.ints .i64 Z.E.nx],ah [.bools Z.E.us]=ah [.bools Z.E.us],ah [.ints .u32 Z.E.kx, .ints .i64 Z.E.px, .bools Z.E.ux]=ah [.ints .u32 Z.E.kx, .ints .i64 Z.E.px, .bools Z.E.ux],ah [.ints .i64 Z.E.ps]=ah [.ints .i64 Z.E.ps],ah [.ints .i64 Z.E.no]=ah [.ints .i64 Z.E.no],ah [.ints .u32 Z.rv]=ah [.ints .u32 Z.rv]]
theorem jH (Z:Pt):aI (Bh Z):=⟨rfl,rfl,rfl,rfl,rfl,rfl,rfl,rfl,rfl,rfl,rfl,rfl,rfl,rfl,rfl,trivial⟩
theorem adR (Q:Pt) (b0 r0 p0 b1 r1 p1 b2 r2 p2 u a:Int):cu Try.prog XP6 100000 [.d true] 3 [Q.d,uI b0 r0 p0 b1 r1 p1 b2 r2 p2,u32 u,u64 a]=some (bo true,[Q.great=true]):=by kernel_rfl
theorem aiY (Q:Pt) (b0 r0 p0 b1 r1 p1 b2 r2 p2 u a:Int):cu Try.prog XP6 100000 [.d false, .c 2, .d true, .c 4, .d true, .c 4, .d true, .c 1, .d true, .c 1, .d true, .c 1] 3 [Q.d,uI b0 r0 p0 b1 r1 p1 b2 r2 p2,u32 u,u64 a] =
  some (bo true,Bh Q ++ ([Q=Q,Gh Q,ai .eql (lG Q) (lG Q)=true,(rvB Q u ==rvB Q u)=true,ai .eql (lG Q) (lG Q)=true] ++ (Bh (LH Q) ++ (Bh (LH Q) ++ ([LH Q=LH Q,Gh (LH Q),ai .eql (Va Q u) (Va Q u)=true] ++ (Bh (Lm Q u) ++ (Bh (Lm Q u) ++ ([Lm Q u=Lm Q u,Gh (Lm Q u),ai .eql (WJ Q b0 r0 p0 b1 r1 p1 b2 r2 p2) (WJ Q b0 r0 p0 b1 r1 p1 b2 r2 p2)=true] ++ (Bh (O0 Q b0 r0 p0 b1 r1 p1 b2 r2 p2 a) ++ (Bh (O0 Q b0 r0 p0 b1 r1 p1 b2 r2 p2 a) ++ ([O0 Q b0 r0 p0 b1 r1 p1 b2 r2 p2 a=O0 Q b0 r0 p0 b1 r1 p1 b2 r2 p2 a,Gh (O0 Q b0 r0 p0 b1 r1 p1 b2 r2 p2 a),uJ Q] ++ (Bh Q ++ ([uJ Q,uJ Q] ++ (Bh Q ++ ([uJ Q,uJ Q] ++ (Bh Q ++ ([uJ Q,liS Q a] ++ (Bh Q ++ ([liS Q a,Gh Q,Q.great=false]))))))))))))))))))):=by kernel_rfl
theorem aaf (x:Int):ai .eql x x=true:=by rw[iM]
theorem Qi (Q:Pt) (b0 r0 p0 b1 r1 p1 b2 r2 p2 u a:Int) (hh:aaD Q∧(jV b0∧jV r0∧jV p0∧jV b1∧jV r1∧jV p1∧jV b2∧jV r2∧jV p2)∧vk u∧ZW a):
  CallsD Try.prog 3 [Q.d,uI b0 r0 p0 b1 r1 p1 b2 r2 p2,u32 u,u64 a] (bo true):=by
 obtain⟨hq,_,hu,ha⟩:=hh
 cases f0:Q.great with
 |true=>exact aV aiX (adR Q b0 r0 p0 b1 r1 p1 b2 r2 p2 u a) ⟨f0,trivial⟩ rfl
 |false=>
  have ho:=Zh hq f0
  have hl:=afi hq f0 ha
  have w:=pG ho
  refine aV aiX (aiY Q b0 r0 p0 b1 r1 p1 b2 r2 p2 u a) ?_ rfl
  repeat rw[aW]
  refine⟨jH _,⟨⟨rfl,w,aaf _,by simp,aaf _,trivial⟩,⟨jH _,⟨jH _,⟨⟨rfl,adu w,aaf _,trivial⟩,⟨jH _,⟨jH _,⟨⟨rfl,adD w u,aaf _,trivial⟩,⟨jH _,⟨jH _,⟨⟨rfl,adO w _ _ _ _ _ _ _ _ _ _,ho,trivial⟩,⟨jH _,⟨⟨ho,ho,trivial⟩,⟨jH _,⟨⟨ho,ho,trivial⟩,⟨jH _,⟨⟨ho,hl,trivial⟩,⟨jH _,⟨hl,w,f0,trivial⟩⟩⟩⟩⟩⟩⟩⟩⟩⟩⟩⟩⟩⟩⟩⟩⟩⟩⟩
end TableS
end

section
namespace Go.Proofs.Ytfoelbdkgaliaaa.partChanges
open Go.ChangeShapes Go.WideShapes Go.ChangeAt Go.RowKit Go.Dam _root_.TableS
set_option maxRecDepth 100000
theorem walk (W:World) (v0 v1 v2 v3:Value) (l0:List Value) (f1:Nat→Int) (n2:Int) (n3:Int) (h0:v0= .agg l0.toArray) (w0:ig W JI l0) (h1:v1= .agg (xR PD f1).toArray) (w1:∀ j k,PD[j]? =some k→(Lit.int k (f1 j)).wf=true) (h2:v2= .int .u32 n2) (w2:(Lit.int .u32 n2).wf=true) (h3:v3= .int .u64 n3) (w3:(Lit.int .u64 n3).wf=true):
  Calls Try.prog 3 #[v0,v1,v2,v3] W (fun e W'=>e= .returned (.bool true)∧Below W.heap.size W W'):=by
 obtain⟨T0,t0,r0⟩:=abu w0
 subst h0;subst h1;subst h2;subst h3
 refine(Qi T0 (f1 0) (f1 1) (f1 2) (f1 3) (f1 4) (f1 5) (f1 6) (f1 7) (f1 8) n2 n3 ⟨t0,⟨TableS.wf_i64 (w1 0 .i64 rfl),TableS.wf_i64 (w1 1 .i64 rfl),TableS.wf_i64 (w1 2 .i64 rfl),TableS.wf_i64 (w1 3 .i64 rfl),TableS.wf_i64 (w1 4 .i64 rfl),TableS.wf_i64 (w1 5 .i64 rfl),TableS.wf_i64 (w1 6 .i64 rfl),TableS.wf_i64 (w1 7 .i64 rfl),TableS.wf_i64 (w1 8 .i64 rfl)⟩,Go.Dam.wf_u32 w2,TableS.wf_u64 w3⟩ W (fun k=>k<W.heap.size) [_,_,_,_] ?_ (fun _ h=>h) (fun g h=>absurd rfl h)).mono ?_
 ·exact⟨_,_,rfl,r0,⟨_,_,rfl,XM _ _,⟨_,_,rfl,rfl,⟨_,_,rfl,rfl,rfl⟩⟩⟩⟩
 ·rintro e w' ⟨v,A',bl,rfl,hr,_,_,_,_,hb⟩
  have hv:v= .bool true:=by
   simp only[dJ,aC] at hr
   exact hr.1
  exact⟨by rw[hv],hb⟩
theorem own:ownKnob Try.prog.godebug=none:=by kernel_rfl
theorem laidOut:laidOutB Try.prog=true:=by kernel_rfl
theorem lifted (os:Os) (started:os.Started) (H:Type) (enc:TypeId×Value→H):
  ReturnsInHanded {} Try.checked os 3 .any (Rows.partChangesSpec.pre6 enc Try.prog Try.f3 Rows.partChangesRow.domain false) (Rows.partChangesSpec.post enc Try.prog Try.f3 false true false false):=by
 refine returnsInHanded_of_change_sized (C:=Try.checked) own started (by kernel_rfl) Try.func3
  (ChangeSpec.witness6 (enc:=enc) (C:=Try.checked) false ⟨#[],#[.agg #[.int .u32 0, .int .i64 0, .int .i64 0, .int .i64 0, .int .i64 0, .int .i64 0, .int .i64 0, .int .i64 0, .int .i64 0, .int .i64 0, .int .i64 0, .int .i64 0, .int .i64 0, .int .i64 0, .int .i64 0, .int .u64 0, .int .i64 0, .slice none 0 0, .slice none 0 0, .slice none 0 0, .slice none 0 0, .int .i64 0, .slice none 0 0, .slice none 0 0, .slice none 0 0, .int .i64 0, .int .i64 0, .int .i64 0, .slice none 0 0, .slice none 0 0, .slice none 0 0, .slice none 0 0, .int .i64 0, .slice none 0 0, .slice none 0 0, .slice none 0 0, .int .i64 0, .int .i64 0, .slice none 0 0, .int .u64 0, .int .u64 0, .int .u64 0], .agg #[.int .i64 0, .int .i64 0, .int .i64 0, .int .i64 0, .int .i64 0, .int .i64 0, .int .i64 0, .int .i64 0, .int .i64 0], .int .u32 0, .int .u64 0],[]⟩ 8 (by kernel_rfl) (by kernel_rfl) (by kernel_rfl) (by kernel_rfl)) ?_
 intro W base args ds gs before hval0 hW hcnd hsz0 _
 have hval:∀ (j:Nat) t v,Try.f3.params[j]? =some t→args[j]? =some v→Value.okWide Try.prog W .any base t v:=hval0
 have hW':=hW
 obtain⟨p,q,hA0,hV,rfl,hfz,hnd⟩:=hW
 have hA:DataW.TrodAll enc Try.prog W 0 (fun _=>true) true Try.f3.params.toList args.toList ds p:=hA0
 rw[Try.params3] at hA hval
 obtain⟨v0,vs0,d0,ds0,p0,q0,hargs,rfl,rfl,h0,r0⟩:=trodAll_cons hA
 obtain⟨v1,vs1,d1,ds1,p1,q1,rfl,rfl,rfl,h1,r1⟩:=trodAll_cons r0
 obtain⟨v2,vs2,d2,ds2,p2,q2,rfl,rfl,rfl,h2,r2⟩:=trodAll_cons r1
 obtain⟨v3,vs3,d3,ds3,p3,q3,rfl,rfl,rfl,h3,r3⟩:=trodAll_cons r2
 obtain⟨rfl,rfl,rfl⟩:=trodAll_nil r3
 obtain rfl:args=#[v0,v1,v2,v3]:=by cases args;simp_all
 obtain⟨rfl,rfl⟩:=trodVars_none hV
 have lt:∀ {t:TypeId} {v:Value} {d:DataW H} {ps:List MemPlace},DataW.Trod enc Try.prog W 0 (fun _=>true) true t v d ps→∀ x∈ps,x.block<W.heap.size:=fun h=>by
  obtain⟨m,hm⟩:=h;exact DataW.trod_lt m _ _ _ hm
 obtain⟨l0,e0,w0⟩:=UU (n:=7) (ks:=JI) (by kernel_rfl) (by rw[Try.underlying43]) (hval 0 43 v0 rfl rfl) h0
 obtain⟨f1,e1,w1⟩:=open_ints (n:=5) (ks:=PD) (by kernel_rfl) (by rw[Try.underlying25]) (hval 1 25 v1 rfl rfl) h1
 obtain⟨n2,e2,_,_,w2⟩:=open_int (k:= .u32) Try.underlying22 (hval 2 22 v2 rfl rfl) h2
 obtain⟨n3,e3,_,_,w3⟩:=open_int (k:= .u64) Try.underlying26 (hval 3 26 v3 rfl rfl) h3
 clear hA0 hval0 hsz0
 refine(walk W v0 v1 v2 v3 l0 f1 n2 n3 e0 w0 e1 w1 e2 w2 e3 w3).mono fun e W' ⟨he,bel⟩=>?_
 subst he
 exact⟨_,rfl,_,_,_,[],_,[],hW',trodAll_mk1 (shut_bool Try.underlying4 _),
  (trodAll_cons_mk (Below.trod laidOut (by kernel_rfl) (of_decide_eq_true (by kernel_rfl)) h0 bel (lt h0)) (trodAll_cons_mk (Below.trod laidOut (by kernel_rfl) (of_decide_eq_true (by kernel_rfl)) h1 bel (lt h1)) (trodAll_cons_mk (Below.trod laidOut (by kernel_rfl) (of_decide_eq_true (by kernel_rfl)) h2 bel (lt h2)) (trodAll_cons_mk (Below.trod laidOut (by kernel_rfl) (of_decide_eq_true (by kernel_rfl)) h3 bel (lt h3)) trodAll_mk0)))),rfl,bel.frame _,fun h=>by cases h⟩
theorem over:Rows.partChangesRow.holds Try.pinned (OpenSpec.ofChange Rows.partChangesSpec):=
 OpenClaim.holds_of_wide 3 Try.f3 rfl rfl rfl rfl rfl rfl rfl ⟨rfl,rfl,rfl,rfl,rfl⟩ rfl rfl rfl rfl rfl (by kernel_rfl) Try.func3 (by kernel_rfl)
  (of_decide_eq_true (by kernel_rfl)) (by unfold Func.isWrapper;first | (rw[if_pos (by decide +kernel)];kernel_rfl) | (rw[if_neg (by decide +kernel)];exact⟨rfl,rfl⟩))
  (fun os started H enc _=>lifted os started H enc)
theorem proved:Rows.PartChangesSaid:=over
#print axioms proved
end Go.Proofs.Ytfoelbdkgaliaaa.partChanges
namespace Go.Proofs.Ytfoelbdkgaliaaa
theorem partChanges_holds:Rows.PartChangesSaid:=partChanges.proved
end Go.Proofs.Ytfoelbdkgaliaaa
end
