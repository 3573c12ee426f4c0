/- The engine: an abstract machine for the program's functions, proved right against the model. No condition. -/
import Derived.Test.YtfoelbdkgaliaaaDamPA
import Derived.Still
set_option linter.unusedSectionVars false
set_option linter.unusedVariables false
set_option linter.unusedSimpArgs false
section
namespace Go.Dam
open Go Go.RowKit
variable [gB]
def jq (P:Program) (f:FuncId):Option (Func×Code):=
 match P.funcs[f]? with
 |none=>none
 | some fn => if fn.name == "runtime.NumGoroutine" then none else match fn.body with
  |none=>none
  |some c=>some (fn,c)
def JH (want:Bool):Value→Option Bool
 | .bool b=>some (b ==want)
 |_=>some false
def Xc (want:Bool):D→Option Bool
 | .v x=>JH want x
 |_=>none
def bf (R:Array Oper) (o:Oper) (σ:St):Option Bool:=
 match o.guard with
 |none=>some true
 |some (j,want)=>match (R[j]?).bind (·.dst) with
  |none=>some false
  |some t=>Xc want (σ.fr.tm t)
def St.enter (σ:St) (args:List D) (nt:Nat):St:=
 { fr:={ nt:=args.length+(nt - args.length),tm:=fun t=>(args ++ List.replicate (nt - args.length) (D.v undef)).getD t .undef },stk:=σ.fr::σ.stk,bk:=σ.bk,loop:=σ.loop }
def resD (P:Program) (σ:St):List ResultVar→Option (List D)
 |[]=>some []
 | .tmp t::rs=>(resD P σ rs).map (σ.fr.tm t::·)
 | .cell t ty::rs=>match (σ.fr.tm t).behind σ.bk with
  |none=>none
  |some (cs,off)=>match takeD P ty cs off,resD P σ rs with
   |some d,some ds=>some (d::ds)
   |_,_=>none
def rF:List D→D
 |[d]=>d
 |ds=> .bF ds
def callParts:Op→Option (Operand×Array Operand)
 | .call ⟨.value fo,args,_⟩=>some (fo,args)
 |_=>none
inductive Ex where
 |normal
 |exit (id:Nat)
 |ret
 deriving DecidableEq
def Ex.out:Ex→Exit
 | .normal=> .normal
 | .exit id=> .exit id
 | .ret=> .ret
def dL (σ σ':St):Prop:=∀ (w:World) (A:Nat→Prop) (β:Env) (base:Nat) (tmps:Array Value) (acts:List (Array Value)),Rel w A β base σ tmps acts→∃ β':Env,Rel w A β' base σ' tmps acts
structure KO (w w':World) (so:Option Addr) (c:Nat) (ys:List Value) (o:Addr) (c':Nat):Prop where
 spot:o.spot=none
 obj:∃ cc T,w'.heap[o.block]? =some (.cells cc T (0,0))∧o.off+c'≤cc.size
 len:ys.length≤c'
 cells:∀ (k:Nat) (v:Value),ys[k]? =some v→w'.cell? (aG o k)=some v
 turn:(w.heap.size≤o.block∧Below w.heap.size w w')∨
  (0<c∧so=some o∧w.grownBy w' (some o.block)∧∀ cc T fz,w.heap[o.block]? =some (.cells cc T fz)→∃ cc':Array Value,w'.heap[o.block]? =some (.cells cc' T fz)∧cc'.size=cc.size)
def NV (P:Program) (f:FuncId) (xs:List Value) (a x:Value) (ys:List Value):Prop:=
 ∀ (w:World) (so:Option Addr) (c:Nat) (vb:Addr) (vc:Nat),
  (xs=[]∧c=0∨xs.length≤c∧∃ b:Addr,so=some b∧b.spot=none∧b.block≠vb.block∧(∃ cc T,w.heap[b.block]? =some (.cells cc T (0,0))∧b.off+c≤cc.size)∧∀ (k:Nat) (v:Value),xs[k]? =some v→w.cell? (aG b k)=some v)→
  vb.spot=none→(∃ cc T,w.heap[vb.block]? =some (.cells cc T (0,0)))→w.cell? vb=some x→
  Calls P f #[.slice so xs.length c,a, .slice (some vb) 1 vc] w fun e w'=>∃ o c',e= .returned (.slice (some o) ys.length c')∧KO w w' so c ys o c'
section
variable {P:Program} {w:World} {A:Nat→Prop} {β:Env} {base:Nat} {σ:St} {a:Act} {acts:List (Array Value)}
theorem Rel.drop {tmps:Array Value} (h:Rel w A β base σ tmps acts) (i:Nat):Rel w A β base (σ.dO i) tmps acts where
 fr:=h.fr
 stk:=h.stk
 blk:=fun j b hb=>by
  simp only[St.dO] at hb
  split at hb
  ·cases hb
  ·exact h.blk j b hb
 inj:=fun j k a b hj hk=>h.inj j k a b (fun e=>hj (by simp only[St.dO];split<;>simp[e])) (fun e=>hk (by simp only[St.dO];split<;>simp[e]))
 low:=h.low
 top:=h.top
 glo:=h.glo
 lp:=h.lp
theorem Ba {xs:List Value}:∀ {ad:Addr} {k:Nat} {v:Value},ad.spot=none→aZ w A β (xs.map .v) ad→xs[k]? =some v→w.cell? (aG ad k)=some v:=by
 induction xs with
 |nil=>intro ad k v _ _ h;simp at h
 |cons x xs ih=>
  intro ad k v hs h hk
  simp only[List.map_cons,aZ] at h
  obtain⟨⟨u,h1,h2⟩,h3⟩:=h
  simp only[Rep,aC] at h2
  cases k with
  |zero=>
   simp only[List.getElem?_cons_zero,Option.some.injEq] at hk
   have:aG ad 0=ad:=by cases ad;simp at hs;simp[aG,hs]
   rw[this,h1,h2,hk]
  |succ k=>
   have:=ih rfl h3 (by simpa using hk)
   rw[dh,Nat.add_comm 1 k] at this
   exact this
theorem U7 {xs:List Value}:∀ {ad:Addr},ad.spot=none→(∀ (k:Nat) (v:Value),xs[k]? =some v→w.cell? (aG ad k)=some v)→bC w A (xs.map .v) ad:=by
 induction xs with
 |nil=>intro ad _ _;simp[bC]
 |cons x xs ih=>
  intro ad hs h
  simp only[List.map_cons,bC]
  refine⟨⟨x,?_,by simp[aC]⟩,ih rfl fun k v hk=>?_⟩
  ·have h0:=h 0 x (by simp)
   have:aG ad 0=ad:=by cases ad;simp at hs;simp[aG,hs]
   rwa[this] at h0
  ·have:=h (k+1) v (by simpa using hk)
   rw[dh,Nat.add_comm 1 k];exact this
theorem Wi (hrel:Rel w A β base σ a.tmps acts) {dst:Option Tmp} {f:FuncId} {i j z:Nat} {xs ys:List Value} {at' x:Value} {sz szj:Sz} {vs:List Value} (hD:NV P f xs at' x ys) (hij:i≠j)
  (hi:σ.bk i=some ⟨xs.map .v,false⟩) (hj:σ.bk j=some ⟨[.v x],false⟩) (hs:sz.s=1) (hargs:aF w A β [.sl i 0 xs.length sz, .v at', .sl j 0 1 szj] vs):
  Calls P f vs.toArray w fun e w'=>∃ v β',e= .returned v∧Rel w' A β' base ((gY (σ.dO i) z [ys.map .v]).put dst (.sl z 0 ys.length ⟨1,0⟩)) (a.put dst v).tmps acts∧Turn A A base w w':=by
 simp only[aF] at hargs
 obtain⟨v1,_,rfl,h1,v2,_,rfl,h2,v3,_,rfl,h3,rfl⟩:=hargs
 simp only[Rep] at h1 h3
 simp only[Rep,aC] at h2;subst h2
 obtain⟨so,c,rfl,h1⟩:=h1
 obtain⟨jo,jc,rfl,h3⟩:=h3
 obtain⟨ja,hja,rfl,_⟩:∃ ad,β j=some ad∧jo=some (aG ad 0)∧True:=by
  rcases h3 with⟨h3,_⟩ | ⟨_,ad,g1,g2,_⟩
  ·omega
  ·exact⟨ad,g1,g2,trivial⟩
 have hjb:oQ w A β base ⟨[.v x],false⟩ ja:=by
  rcases hrel.blk j _ hj with⟨q,_⟩ | ⟨ad,q,q2⟩
  ·rw[hja] at q;cases q
  ·rw[hja] at q;cases q;exact q2
 obtain⟨jcc,jT,hjo⟩:=hjb.obj
 have hjx:w.cell? (aG ja 0)=some x:=Ba (xs:=[x]) (k:=0) hjb.spot hjb.cells (by simp)
 have pre:xs=[]∧c=0∨xs.length≤c∧∃ b:Addr,so=some b∧b.spot=none∧b.block≠(aG ja 0).block∧(∃ cc T,w.heap[b.block]? =some (.cells cc T (0,0))∧b.off+c≤cc.size)∧∀ (k:Nat) (v:Value),xs[k]? =some v→w.cell? (aG b k)=some v:=by
  rcases h1 with⟨g1,g2⟩ | ⟨g1,ad,g2,rfl,g3⟩
  ·exact .inl ⟨List.length_eq_zero_iff.1 (by omega),g2⟩
  ·refine .inr ⟨by omega,_,rfl,rfl,?_,?_,?_⟩
   ·intro e
    exact hij (hrel.inj i j ad ja (by simp[hi]) (by simp[hj]) g2 hja e)
   ·rcases hrel.blk i _ hi with⟨q,_⟩ | ⟨ad',q,q2⟩
    ·rw[g2] at q;cases q
    ·rw[g2] at q;cases q
     obtain⟨cc,T,ho⟩:=q2.obj
     obtain⟨cc',T',fz,ho',hr⟩:=g3
     rw[ho] at ho';cases ho'
     exact⟨cc,T,ho,by rw[hs] at hr;simpa using hr⟩
   ·intro k v hk
    rcases hrel.blk i _ hi with⟨q,_⟩ | ⟨ad',q,q2⟩
    ·rw[g2] at q;cases q
    ·rw[g2] at q;cases q
     rw[dh,Nat.zero_add]
     exact Ba q2.spot q2.cells hk
 refine(hD w so c (aG ja 0) jc pre rfl ⟨jcc,jT,hjo⟩ hjx).mono ?_
 rintro e w' ⟨o,c',rfl,hR⟩
 have turned:∃ t:Option Nat,w.grownBy w' t∧(∀ k,t=some k→k=o.block∧∃ ad,β i=some ad∧ad.block=k)∧(∀ k,t=some k→∀ cc T fz,w.heap[k]? =some (.cells cc T fz)→∃ cc':Array Value,w'.heap[k]? =some (.cells cc' T fz)∧cc'.size=cc.size)∧(t=none→w.heap.size≤o.block):=by
  rcases hR.turn with⟨g1,g2⟩ | ⟨g0,g1,g2,g3⟩
  ·exact⟨none,⟨g2.os,g2.tape,g2.output,g2.size,fun k hk _=>g2.block k hk⟩,fun k h=>(by cases h),fun k h=>(by cases h),fun _=>g1⟩
  ·refine⟨some o.block,g2,fun k h=>?_,fun k h=>?_,fun h=>by cases h⟩
   ·cases h
    refine⟨rfl,?_⟩
    rcases h1 with⟨_,q⟩ | ⟨_,ad,q1,q2,_⟩
    ·omega
    ·rw[g1] at q2;cases q2;exact⟨ad,q1,rfl⟩
   ·cases h;exact g3
 obtain⟨t,hg,ht1,ht2,ht3⟩:=turned
 have hib:∀ ad,β i=some ad→base≤ad.block∧¬ A ad.block∧∃ cc T,w.heap[ad.block]? =some (.cells cc T (0,0)):=fun ad h=>by
  rcases hrel.blk i _ hi with⟨q,_⟩ | ⟨ad',q,q2⟩
  ·rw[h] at q;cases q
  ·rw[h] at q;cases q
   exact⟨q2.base,q2.own rfl,q2.obj⟩
 have same:∀ k,k<w.heap.size→t≠some k→w'.heap[k]? =w.heap[k]? :=fun k hk hne=>hg.block k hk (Ne.symm hne)
 have hx:Ext A w w':=by
  refine⟨fun k hk=>same k (hrel.low k hk) fun e=>?_,fun b m h=>?_⟩
  ·obtain⟨_,ad,e1,e2⟩:=ht1 k e
   exact(hib ad e1).2.1 (e2▸hk)
  ·obtain⟨cc,T,fz,q1,q2⟩:=h
   by_cases e:t=some b
   ·obtain⟨cc',q3,q4⟩:=ht2 b e cc T fz q1
    exact⟨cc',T,fz,q3,by rw[q4];exact q2⟩
   ·exact⟨cc,T,fz,by rw[same b (Array.getElem?_eq_some_iff.1 q1).1 e];exact q1,q2⟩
 have hoth:Gi w w':=fun k ob hk ho=>by
  have hlt:=(Array.getElem?_eq_some_iff.1 hk).1
  rw[same k hlt fun e=>?_];exact hk
  obtain⟨_,ad,e1,e2⟩:=ht1 k e
  obtain⟨_,_,cc,T,q⟩:=hib ad e1
  rw[e2,hk] at q;cases q;cases ho
 have hbelow:Below base w w':=⟨hg.os,hg.tape,hg.output,hg.size,fun k hk=>same k (Nat.lt_of_lt_of_le hk hrel.top) fun e=>by
  obtain⟨_,ad,e1,e2⟩:=ht1 k e
  have:=(hib ad e1).1;omega⟩
 have hcar:Rel w' A β base (σ.dO i) a.tmps acts:=by
  refine(hrel.drop i).carry hx (fun _ h=>h) (fun k hk=>Nat.lt_of_lt_of_le (hrel.low k hk) hg.size) (Nat.le_trans hrel.top hg.size) (fun _ _ _=>rfl) (fun _ _ _ _ _=>rfl) (fun k b hb=>⟨rfl,fun _ _=>rfl,fun ad ha=>⟨?_,fun h=>h⟩⟩) (hrel.lp.mono hoth (.refl _ _) (fun _=>rfl))
  simp only[St.dO] at hb
  split at hb
  ·cases hb
  next hne=>
   refine same _ (nG hrel hb ha) fun e=>?_
   obtain⟨_,ad',e1,e2⟩:=ht1 _ e
   exact hne (hrel.inj k i ad ad' (by simp[hb]) (by simp[hi]) ha e1 e2.symm)
 obtain⟨cc',T',ho,hroom⟩:=hR.obj
 obtain⟨β',k1,k2,_⟩:=lI (tmps:=a.tmps) [ys.map .v] [some o] (σ.dO i) β z hcar
  (.cons (.inr ⟨o,rfl,hR.spot,⟨cc',T',ho,by omega⟩,U7 hR.spot hR.cells⟩) .nil)
  (fun ad had=>by
   simp only[List.mem_singleton,Option.some.injEq] at had
   subst had
   cases t with
   |none=>
    have hge:=ht3 rfl
    refine⟨Nat.le_trans hrel.top hge,fun h=>by have:=hrel.low _ h;omega,fun k a2 hbk ha=>?_⟩
    obtain⟨b,hb⟩:=Option.ne_none_iff_exists'.1 hbk
    simp only[St.dO] at hb
    split at hb
    ·cases hb
    ·have:=nG hrel hb ha;omega
   |some k0=>
    obtain⟨rfl,ad',e1,e2⟩:=ht1 k0 rfl
    obtain⟨q1,q2,_⟩:=hib ad' e1
    refine⟨e2▸q1,e2▸q2,fun k a2 hbk ha he=>?_⟩
    obtain⟨b,hb⟩:=Option.ne_none_iff_exists'.1 hbk
    simp only[St.dO] at hb
    split at hb
    ·cases hb
    next hne=>exact hne (hrel.inj k i a2 ad' (by simp[hb]) (by simp[hi]) ha e1 (he.trans e2.symm)))
  (by simp)
 refine⟨_,β',rfl,k1.oJ dst ?_,⟨hx,fun _ h=>h,hbelow,fun _ h _=>h, .strict hoth (.refl _ _)⟩⟩
 have hz:β' z=some o:=k2 0 (some o) rfl
 simp only[Rep]
 refine⟨_,c',rfl, .inr ⟨by have:=hR.len;simpa using this,o,hz,?_,⟨cc',T',(0,0),ho,by simpa using hroom⟩⟩⟩
 obtain⟨b,f,s⟩:=o
 have:=hR.spot;simp only at this;subst this
 rfl
end
inductive ku (P:Program) (F:FuncId→List D→D→Prop) (o:Oper) (σ:St):St→Prop
 |op {e:Eff} {id:Nat} {σ':St}:dB P σ.bk (bn σ) o.type o.op=some e→dK σ o.dst id e=some σ'→ku P F o σ σ'
 |opw {e:Eff} {id:Nat} {σ1 σ':St}:dB P σ.bk (bn σ) o.type o.op=some e→dK σ o.dst id e=some σ1→dL σ1 σ'→ku P F o σ σ'
 |ext {fo:Operand} {args:Array Operand} {f:FuncId} {vs:List Value} {u:Value}:callParts o.op=some (fo,args)→bn σ fo= .fn f []→D.qX (args.toList.map (bn σ))=some vs→
   dA P (callFunc f vs.toArray)=some (.value u)→ku P F o σ (σ.put o.dst (D.l7 u))
 |call {fo:Operand} {args:Array Operand} {f:FuncId} {caps:List D} {id:Nat} {σ':St}:callParts o.op=some (fo,args)→bn σ fo= .fn f caps→(jq P f).isSome=true→
   WQ F σ o.dst id f (args.toList.map (bn σ) ++ caps) σ'→ku P F o σ σ'
 |grow {i n m s z:Nat} {sz:Sz} {ds cells:List D}:dB P σ.bk (bn σ) o.type o.op=some (.app (.sl i 0 n sz) s m ds)→σ.bk i=some ⟨cells,false⟩→n*s≤cells.length→Unused z σ→
   D.bQ z (cells.take (n*s) ++ ds)=false→ku P F o σ (σ.grown o.dst i z n m s (cells.take (n*s) ++ ds))
 |own {fo:Operand} {args:Array Operand} {f:FuncId} {i j z:Nat} {xs ys:List Value} {at' x:Value} {sz szj:Sz}:callParts o.op=some (fo,args)→bn σ fo= .fn f []→(jq P f).isSome=true→
   args.toList.map (bn σ)=[.sl i 0 xs.length sz, .v at', .sl j 0 1 szj]→i≠j→σ.bk i=some ⟨xs.map .v,false⟩→σ.bk j=some ⟨[.v x],false⟩→sz.s=1→NV P f xs at' x ys→
   ku P F o σ ((gY (σ.dO i) z [ys.map .v]).put o.dst (.sl z 0 ys.length ⟨1,0⟩))
structure ajh (σ σ':St):Prop where
 nt:σ'.fr.nt=σ.fr.nt
 tm:∀ t,σ'.fr.tm t=σ.fr.tm t∨σ'.fr.tm t= .undef
 stk:σ'.stk=σ.stk
 bk:∀ i,σ'.bk i=σ.bk i∨σ'.bk i=none
 lp:σ'.loop=σ.loop
section
variable {P:Program} {F:FuncId→List D→D→Prop}
theorem dL.refl (σ:St):dL σ σ:=fun _ _ β _ _ _ hr=>⟨β,hr⟩
theorem dL.trans {σ σ' σ'':St} (h:dL σ σ') (k:dL σ' σ''):dL σ σ'':=fun w A β base t a hr=>let ⟨β',h'⟩:=h w A β base t a hr;k w A β' base t a h'
theorem fE {w:World} {A:Nat→Prop} {β:Env} {base:Nat} {σ:St} {a:Act} {acts:List (Array Value)} (h:Rel w A β base σ a.tmps acts) (x:Operand):Rep w A β (bn σ x) (a.eval x):=by
 cases x with
 |tmp t=>exact h.fr.tm t
 |const v=>exact Rep.l7 v
 |global g=>
  show Rep w A β (Zx (gB.g g)) _
  cases hg:gB.g g with
  |nil=>simp[Zx,Rep,aC]
  |cons d ds=>
   have hne:gB.g g≠[]:=by rw[hg];simp
   obtain⟨h1,h2⟩:=h.glo g hne
   rw[hg] at h2
   exact⟨⟨g,0,none⟩,rfl,rfl,fun _=>h1,h2⟩
 |func f=>simp only[bn,Rep,Act.eval];exact⟨[],rfl,by simp[aF]⟩
theorem iw {w:World} {A:Nat→Prop} {β:Env} {base:Nat} {σ:St} {a:Act} {acts:List (Array Value)} (h:Rel w A β base σ a.tmps acts) {R:Array Oper} {o:Oper} {b:Bool} (hw:bf R o σ=some b):
  Region.wanted o (yielded R a.tmps)=b:=by
 unfold bf at hw
 unfold Region.wanted
 split at hw
 next hg=>simp at hw;subst hw;simp[hg]
 next j want hg=>
  simp only[hg]
  split at hw
  next hd=>simp at hw;subst hw;simp[yielded,hd]
  next t hd=>
   have ht:=h.fr.tm t
   have hget:∀ x:Value,(a.tmps.getD t Go.undef=x)→x≠Go.undef→a.tmps[t]? =some x:=by
    intro x hx hne
    rw[Array.getD_eq_getD_getElem?] at hx
    cases hc:a.tmps[t]? with
    |none=>rw[hc] at hx;exact absurd hx.symm hne
    |some y=>rw[hc] at hx;simp at hx;rw[hx]
   unfold Xc at hw
   split at hw
   next x hx=>
    rw[hx] at ht
    simp only[Rep,aC] at ht
    unfold JH at hw
    split at hw
    next b'=>
     simp at hw;subst hw
     have:=hget _ ht (by simp[Go.undef])
     simp[yielded,hd,this]
    next hnb=>
     simp at hw;subst hw
     have hy:yielded R a.tmps j=none:=by
      simp only[yielded,hd,Option.bind_some]
      cases hc:a.tmps[t]? with
      |none=>rfl
      |some y=>
       rw[Array.getD_eq_getD_getElem?,hc] at ht
       simp at ht
       subst ht
       cases y<;>first | rfl | exact absurd rfl (hnb _)
     rw[hy];cases want<;>rfl
   ·cases hw
theorem oC {f:FuncId} {fn:Func} {c:Code} (h:jq P f=some (fn,c)):P.funcs[f]? =some fn∧fn.body=some c∧∀ (args:Array Value) (w:World),(callFunc f args).run P w= .ok (.enter f args) w:=by
 unfold jq at h
 split at h
 ·cases h
 next fn' hf=>
  split at h
  ·cases h
  next hn=>
   split at h
   ·cases h
   next c' hb=>
    simp at h;obtain⟨rfl,rfl⟩:=h
    refine⟨hf,hb,fun args w=>?_⟩
    have hn' : (fn'.name == "runtime.NumGoroutine") = false := by simpa using hn
    have hn2 : ¬ fn'.name = "runtime.NumGoroutine" := by simpa using hn'
    simp[callFunc,hf,hn2,hb]
theorem kN {w:World} {A:Nat→Prop} {β:Env} {o:Oper} {ρv:Operand→Value} {fo:Operand} {args:Array Operand} (h:callParts o.op=some (fo,args)) {f:FuncId} {vcaps:List Value} (hf:ρv fo= .func (.func f) #[] vcaps.toArray):
  (execOp ρv o).run P w=(callFunc f ((args.toList.map ρv) ++ vcaps).toArray).run P w:=by
 obtain⟨dst,op,type,pos,after,guard⟩:=o
 cases op with
 |call c=>
  obtain⟨callee,as,ts⟩:=c
  cases callee with
  |value g=>
   simp[callParts] at h
   obtain⟨rfl,rfl⟩:=h
   simp only[execOp,resolve,hf,Deferred.ofValue,Sem.run_bind,Sem.run_pure,Result.andThen_ok,invoke]
   congr 2
   apply Array.ext'
   simp
  |_=>simp[callParts] at h
 |_=>simp[callParts] at h
theorem KL (hF:∀ f as res,F f as res→CallsD P f as res) {w:World} {A:Nat→Prop} {β:Env} {base:Nat} {σ σ':St} {a:Act} {acts:List (Array Value)} (hrel:Rel w A β base σ a.tmps acts) {o:Oper} (h:ku P F o σ σ')
  {K:Act→World→Prop} {Q:Exit→Act→World→Prop} (hK:∀ a' w' A' β',a'.defers=a.defers→Rel w' A' β' base σ' a'.tmps acts→Turn A A' base w w'→K a' w'):o.wp P a w K Q:=by
 have hput:∀ u,(a.put o.dst u).defers=a.defers:=fun u=>by cases o.dst<;>rfl
 cases h with
 |op h1 h2=>
  obtain⟨r,hr,hg⟩:=yP hrel (fE hrel) o h1
  obtain⟨u,w',β',hrun,hrel',hturn⟩:=wF hrel hr hg h2
  unfold Oper.wp
  rcases hrun with h | ⟨h,rfl⟩<;>rw[h]
  ·exact hK _ w' A β' (hput u) hrel' hturn
  ·exact hK _ w' A β' (hput _) hrel' hturn
 |opw h1 h2 h3=>
  obtain⟨r,hr,hg⟩:=yP hrel (fE hrel) o h1
  obtain⟨u,w',β',hrun,hrel',hturn⟩:=wF hrel hr hg h2
  obtain⟨β2,hr2⟩:=h3 _ _ _ _ _ _ hrel'
  unfold Oper.wp
  rcases hrun with h | ⟨h,rfl⟩<;>rw[h]
  ·exact hK _ w' A β2 (hput u) hr2 hturn
  ·exact hK _ w' A β2 (hput _) hr2 hturn
 |grow h1 h2 h3 h4 h5=>
  obtain⟨r,hr,hg⟩:=yP hrel (fE hrel) o h1
  obtain⟨u,w',β',hrun,hrel',hturn⟩:=PV hrel hr hg h2 h3 h4 h5
  unfold Oper.wp
  rcases hrun with h | ⟨h,rfl⟩<;>rw[h]
  ·exact hK _ w' A β' (hput u) hrel' hturn
  ·exact hK _ w' A β' (hput _) hrel' hturn
 |@ext fo args f vs u h1 h2 h3 h4=>
  have hfo:=fE hrel fo
  rw[h2] at hfo
  simp only[Rep,aF] at hfo
  obtain⟨vc,hfo,rfl⟩:=hfo
  have hp:=ny (fE hrel) _ _ h3
  unfold Oper.wp
  rw[kN (w:=w) (A:=A) (β:=β) h1 hfo,hp,List.append_nil,ng P w _ _ h4]
  exact hK _ w A β (hput u) (hrel.oJ o.dst (Rep.l7 u)) (.refl _ _ _)
 |@call fo args f caps id _ h1 h2 h3 h4=>
  have hfo:=fE hrel fo
  rw[h2] at hfo
  simp only[Rep] at hfo
  obtain⟨vc,hfo,hcaps⟩:=hfo
  obtain⟨⟨fn,c⟩,hb⟩:=Option.isSome_iff_exists.1 h3
  unfold Oper.wp
  rw[kN (w:=w) (A:=A) (β:=β) h1 hfo,(oC hb).2.2]
  have hargs:aF w A β (args.toList.map (bn σ) ++ caps) (args.toList.map a.eval ++ vc):=(kT (fE hrel) _).append hcaps
  refine(O5 hF hrel hargs h4).mono ?_
  rintro e w' ⟨v,A',β',rfl,hrel',hturn⟩
  exact hK _ w' A' β' (hput v) hrel' hturn
 |@own fo args f i j z xs ys at' x sz szj h1 h2 h3 h4 h5 h6 h7 h8 h9=>
  have hfo:=fE hrel fo
  rw[h2] at hfo
  simp only[Rep,aF] at hfo
  obtain⟨vc,hfo,rfl⟩:=hfo
  obtain⟨⟨fn,c⟩,hb⟩:=Option.isSome_iff_exists.1 h3
  unfold Oper.wp
  rw[kN (w:=w) (A:=A) (β:=β) h1 hfo,(oC hb).2.2,List.append_nil]
  have hargs:aF w A β [.sl i 0 xs.length sz, .v at', .sl j 0 1 szj] (args.toList.map a.eval):=h4▸kT (fE hrel) _
  refine(Wi (dst:=o.dst) (z:=z) hrel h9 h5 h6 h7 h8 hargs).mono ?_
  rintro e w' ⟨v,β',rfl,hrel',hturn⟩
  exact hK _ w' A β' (hput v) hrel' hturn
def J8 (tmps:Array Value):ResultVar→Sem Value
 | .tmp t=>pure (tmps.getD t undef)
 | .cell a t=>do loadVar t (←asAddr (tmps.getD a undef))
theorem L9 (a:Addr):asAddr (.pointer (some a))=pure a:=rfl
theorem QE (fn:Func) (tmps:Array Value):results fn tmps=(do let vs ←fn.results.mapM (J8 tmps);pure (if h:vs.size=1 then vs[0] else .tuple vs)):=rfl
theorem Jk {w:World} {A:Nat→Prop} {β:Env} {base:Nat} {σ:St} {tmps:Array Value} {acts:List (Array Value)} (hrel:Rel w A β base σ tmps acts):∀ (rs:List ResultVar) (ds:List D),resD P σ rs=some ds→
  ∃ vs:List Value,(rs.mapM (J8 tmps)).run P w= .ok vs w∧aF w A β ds vs
 |[],ds,h=>by simp[resD] at h;subst h;exact⟨[],rfl,by simp[aF]⟩
 | .tmp t::rs,ds,h=>by
  simp only[resD,Option.map_eq_some_iff] at h
  obtain⟨es,h1,rfl⟩:=h
  obtain⟨vs,k1,k2⟩:=Jk hrel rs es h1
  refine⟨tmps.getD t undef::vs,?_,by simp only[aF];exact⟨_,_,rfl,hrel.fr.tm t,k2⟩⟩
  rw[List.mapM_cons]
  simp only[J8,Sem.run_bind,Sem.run_pure,Result.andThen_ok,k1]
 | .cell t ty::rs,ds,h=>by
  simp only[resD] at h
  split at h
  ·cases h
  next cs off hb=>
   split at h
   next d es hd h1=>
    simp at h;subst h
    obtain⟨vs,k1,k2⟩:=Jk hrel rs es h1
    have hne:cs≠[]:=by
     rintro rfl
     unfold takeD at hd
     split at hd
     ·cases hd
     ·split at hd
      ·split at hd
       next hlt=>simp at hlt;omega
       ·cases hd
      ·simp at hd
    obtain⟨ad,e1,e2,e3⟩:=AO hrel (hrel.fr.tm t) hb hne
    obtain⟨u,k3,k4⟩:=NP (P:=P) e2 e3 hd
    refine⟨u::vs,?_,by simp only[aF];exact⟨_,_,rfl,k4,k2⟩⟩
    rw[List.mapM_cons]
    simp only[Sem.run_bind,Sem.run_pure,k1,show J8 tmps (.cell t ty)=(do loadVar ty (←asAddr (tmps.getD t undef))) from rfl,e1,L9,Result.andThen_ok,k3]
   ·cases h
theorem qV {w:World} {A:Nat→Prop} {β:Env} {base:Nat} {σ:St} {tmps:Array Value} {acts:List (Array Value)} (hrel:Rel w A β base σ tmps acts) {fn:Func} {ds:List D} (h:resD P σ fn.results.toList=some ds):
  ∃ v,(results fn tmps).run P w= .ok v w∧Rep w A β (rF ds) v:=by
 obtain⟨vs,k1,k2⟩:=Jk hrel _ ds h
 have hrun:(results fn tmps).run P w= .ok (if h:vs.toArray.size=1 then vs.toArray[0] else .tuple vs.toArray) w:=by
  rw[QE]
  simp only[Sem.run_bind,Array.mapM_eq_mapM_toList,Sem.run_map,k1,Result.andThen_ok,Sem.run_pure]
 refine⟨_,hrun,?_⟩
 have hlen:=k2.length
 match ds,vs,k2,hlen with
 |[d],[v],k2,_=>simp only[aF] at k2;obtain⟨x,xs,he,h1,h2⟩:=k2;simp at he;simp[rF];rw[he.1];exact h1
 |[],[],k2,_=>simp[rF,Rep,aF]
 |d1::d2::ds,v1::v2::vs,k2,_=>simp only[rF,Rep];exact⟨_,by simp,k2⟩
 |[d],[],_,h=>simp at h
 |[d],v1::v2::vs,_,h=>simp at h
 |[],v::vs,_,h=>simp at h
 |d1::d2::ds,[],_,h=>simp at h
 |d1::d2::ds,[v],_,h=>simp at h
end
end Go.Dam
end

section
namespace Go.Dam
open Go Go.RowKit
variable [gB]
section
variable {w:World} {A:Nat→Prop} {β:Env} {base:Nat} {σ:St} {tmps:Array Value} {acts:List (Array Value)}
def St.Fj (σ:St) (t:Nat) (d:D):St:={ σ with fr:={ nt:=σ.fr.nt,tm:=fun k=>if k=t then(if t<σ.fr.nt then d else .undef) else σ.fr.tm k } }
theorem Rel.Fj (h:Rel w A β base σ tmps acts) (t:Nat) (d:D) (hd:t<σ.fr.nt→Rep w A β d (tmps.getD t Go.undef)):Rel w A β base (σ.Fj t d) tmps acts:=
 ⟨⟨h.fr.nt,fun k=>by
   show Rep w A β (if k=t then(if t<σ.fr.nt then d else .undef) else σ.fr.tm k) _
   by_cases e:k=t
   ·subst e
    rw[if_pos rfl]
    by_cases hl:k<σ.fr.nt
    ·rw[if_pos hl];exact hd hl
    ·rw[if_neg hl];simp[Rep,aC]
   ·rw[if_neg e];exact h.fr.tm k⟩,h.stk,h.blk,h.inj,h.low,h.top,h.glo,h.lp⟩
theorem Rel.empty' (h:Rel w A β base σ tmps acts) (i:Nat):∃ β':Env,β' i=none∧Rel w A β' base ((σ.forget i).setB i ⟨[],false⟩) tmps acts∧∀ k,k≠i→β' k=β k:=by
 have h1:=h.forget i
 have key:∀ (d:D) (id:Nat),(d.forget i).has id=true→(fun k=>if k=i then none else β k:Env) id=β id:=fun d id hd=>by
  have:=(D.fB hd).2
  simp[this]
 refine⟨fun k=>if k=i then none else β k,by simp,?_,fun k hk=>by simp[hk]⟩
 have h2:Rel w A (fun k=>if k=i then none else β k) base (σ.forget i) tmps acts:=by
  refine h1.carry (.refl _ _) (fun _ h=>h) h1.low h1.top ?_ ?_ ?_ ?_
  ·intro t id hid
   exact key (σ.fr.tm t) id hid
  ·intro f hf t id hid
   simp only[St.forget,List.mem_map] at hf
   obtain⟨f0,_,rfl⟩:=hf
   exact key (f0.tm t) id hid
  ·intro k b hk
   simp only[St.forget] at hk
   split at hk
   ·cases hk
   next e=>
    rw[Option.map_eq_some_iff] at hk
    obtain⟨b0,_,rfl⟩:=hk
    refine⟨by simp[e],fun id hid=>?_,fun ad _=>⟨rfl,fun h=>h⟩⟩
    have:=(D.gV (cs:=b0.cells) hid).2
    simp[this]
  ·show gK w A _ base (if i=dI then none else σ.loop) acts
   by_cases e:i=dI
   ·rw[if_pos e];trivial
   ·rw[if_neg e]
    exact h.lp.mono (.refl w) (.refl A w) (fun _=>by simp[Ne.symm e])
 refine⟨h2.fr,h2.stk,fun k b' hk=>?_,fun x y a c hx hy ha hc hac=>?_,h2.low,h2.top,h2.glo,h2.lp⟩
 ·simp only[St.setB] at hk
  split at hk
  next e=>simp at hk;subst hk;exact .inl ⟨by simp[e],rfl⟩
  next e=>exact h2.blk k b' hk
 ·by_cases ex:x=i
  ·simp[ex] at ha
  by_cases ey:y=i
  ·simp[ey] at hc
  exact h2.inj x y a c (by simpa only[St.setB,if_neg ex] using hx) (by simpa only[St.setB,if_neg ey] using hy) ha hc hac
theorem Rel.empty (h:Rel w A β base σ tmps acts) (i:Nat):∃ β':Env,β' i=none∧Rel w A β' base ((σ.forget i).setB i ⟨[],false⟩) tmps acts:=by
 obtain⟨β',h1,h2,_⟩:=h.empty' i
 exact⟨β',h1,h2⟩
end
theorem qI (σ:St) (t i:Nat) (s d:D) (b:dR):((((σ.put (some t) s).forget i).setB i b).Fj t d)=(((σ.forget i).setB i b).put (some t) d):=by
 simp only[St.put,St.forget,St.setB,St.Fj]
 congr 1
 simp only[Fr.forget,Fr.put]
 congr 1
 funext k
 by_cases e:k=t
 ·rw[if_pos e,if_pos e]
  rfl
 ·rw[if_neg e,if_neg e,if_neg e]
theorem AP {σ:St} {t i:Nat} {x:D} {s:Nat} (hx:x= .emp∨x= .v (.slice none 0 0)):dL (σ.put (some t) x) (((σ.forget i).setB i ⟨[],false⟩).put (some t) (.sl i 0 0 ⟨s,0⟩)):=by
 intro w A β base tmps acts h
 obtain⟨β',hb',h1⟩:=h.empty i
 refine⟨β',?_⟩
 rw[←qI σ t i x _ ⟨[],false⟩]
 refine h1.Fj t _ fun hl=>?_
 have hl:t<σ.fr.nt:=hl
 have hu:=h.fr.tm t
 have e:((σ.put (some t) x).fr.tm t)=x:=by
  show(if t=t then(if t<σ.fr.nt then x else .undef) else σ.fr.tm t)=_
  rw[if_pos rfl,if_pos hl]
 rw[e] at hu
 simp only[Rep]
 rcases hx with rfl | rfl
 ·simp only[Rep,aC] at hu
  obtain⟨ad,hu⟩:=hu
  exact⟨some ad,0,hu, .inl ⟨by simp,rfl⟩⟩
 ·simp only[Rep,aC] at hu
  exact⟨none,0,hu, .inl ⟨by simp,rfl⟩⟩
theorem Qh {σ:St} {dst:Option Tmp} {i s:Nat}:dL (σ.put dst .emp) (((σ.forget i).setB i ⟨[],false⟩).put dst (.sl i 0 0 ⟨s,0⟩)):=by
 cases dst with
 |none=>
  intro w A β base tmps acts h
  obtain⟨β',_,h1⟩:=Rel.empty h i
  exact⟨β',h1⟩
 |some t=>exact AP (.inl rfl)
theorem Rel.cut {w:World} {A:Nat→Prop} {β:Env} {base:Nat} {σ:St} {tmps:Array Value} {acts:List (Array Value)} (h:Rel w A β base σ tmps acts) {z:Nat} {b:dR} (hb:σ.bk z=some b) (k:Nat):Rel w A β base (σ.setB z ⟨b.cells.take k,b.ro⟩) tmps acts:=by
 refine⟨h.fr,h.stk,fun k b' hk=>?_,fun x y a c hx hy ha hc hac=>?_,h.low,h.top,h.glo,h.lp⟩
 ·simp only[St.setB] at hk
  split at hk
  next e=>
   simp at hk;subst hk;subst e
   rcases h.blk _ b hb with⟨k1,k2⟩ | ⟨ad,k1,k2⟩
   ·exact .inl ⟨k1,by simp[k2]⟩
   ·exact .inr ⟨ad,k1,⟨k2.spot,k2.base,k2.obj,k2.cells.take k2.spot _,k2.own,k2.shared,k2.inside⟩⟩
  next e=>exact h.blk _ b' hk
 ·refine h.inj x y a c ?_ ?_ ha hc hac
  ·by_cases e:x=z
   ·subst e;simp[hb]
   ·simpa only[St.setB,if_neg e] using hx
  ·by_cases e:y=z
   ·subst e;simp[hb]
   ·simpa only[St.setB,if_neg e] using hy
theorem Gv {σ:St} {dst:Option Tmp} {i z n s k:Nat} {sz:Sz} {cells:List D} (hb:σ.bk i=some ⟨cells,false⟩) (hz:Unused z σ) (hs:sz.s=s):
  dL (σ.put dst (.sl i 0 n sz)) (((σ.dO i).setB z ⟨cells.take k,false⟩).put dst (.sl z 0 n ⟨s,0⟩)):=by
 have hiz:i≠z:=fun e=>by rw[e,hz.no] at hb;cases hb
 intro w A β base tmps acts h
 refine⟨β.set z (β i),?_⟩
 have hzp:Unused z (σ.put dst (.sl i 0 n sz)):=by
  cases dst with
  |none=>exact hz
  |some t=>
   refine⟨fun t'=>?_,hz.stk,hz.no,hz.bk,hz.lp⟩
   show(if t'=t then(if t<σ.fr.nt then D.sl i 0 n sz else .undef) else σ.fr.tm t').has z=false
   split
   ·split
    ·simp only[D.has];simpa using hiz
    ·rfl
   ·exact hz.fr t'
 have hbp:(σ.put dst (.sl i 0 n sz)).bk i=some ⟨cells,false⟩:=by cases dst<;>exact hb
 have h1:=h.rename hbp hzp
 have h2:=h1.cut (z:=z) (b:=⟨cells,false⟩) (by simp[St.setB]) k
 have hbz:(β.set z (β i)) z=β i:=Env.bU _ _ _
 cases dst with
 |none=>
  have e:(((σ.put none (.sl i 0 n sz)).dO i).setB z ⟨cells,false⟩).setB z ⟨cells.take k,false⟩=((σ.dO i).setB z ⟨cells.take k,false⟩).put none (.sl z 0 n ⟨s,0⟩):=by
   simp only[St.put,St.setB,St.dO]
   congr 1
   funext j
   by_cases e:j=z<;>simp[e]
  rw[←e];exact h2
 |some t=>
  have e:((((σ.put (some t) (.sl i 0 n sz)).dO i).setB z ⟨cells,false⟩).setB z ⟨cells.take k,false⟩).Fj t (.sl z 0 n ⟨s,0⟩)=((σ.dO i).setB z ⟨cells.take k,false⟩).put (some t) (.sl z 0 n ⟨s,0⟩):=by
   simp only[St.put,St.setB,St.dO,St.Fj,Fr.put]
   congr 1
   ·congr 1
    funext j
    by_cases e:j=t
    ·rw[if_pos e,if_pos e];rfl
    ·rw[if_neg e,if_neg e,if_neg e]
   ·funext j
    by_cases e:j=z<;>simp[e]
  rw[←e]
  refine h2.Fj t _ fun hl=>?_
  have hl:t<σ.fr.nt:=hl
  have hu:=h.fr.tm t
  have e3:((σ.put (some t) (.sl i 0 n sz)).fr.tm t)= .sl i 0 n sz:=by
   show(if t=t then(if t<σ.fr.nt then D.sl i 0 n sz else .undef) else σ.fr.tm t)=_
   rw[if_pos rfl,if_pos hl]
  rw[e3] at hu
  simp only[Rep] at hu ⊢
  obtain⟨o,c,hu,hc⟩:=hu
  refine⟨o,c,hu,?_⟩
  subst hs
  rw[hbz]
  rcases hc with⟨h2,h3⟩ | ⟨h2,ad,h3,h4,h5⟩
  ·exact .inl ⟨by omega,h3⟩
  ·exact .inr ⟨by show max n 0≤c;omega,ad,h3,h4,h5⟩
end Go.Dam
end

section
namespace Go.Dam
open Go Go.RowKit
variable [gB]
theorem Gn (id:Nat) (σ:St):Unused id (σ.forget id) where
 fr:=fun t=>D.FQ id _
 stk:=fun f hf t=>by
  simp only[St.forget,List.mem_map] at hf
  obtain⟨g,_,rfl⟩:=hf
  exact D.FQ id _
 no:=by simp[St.forget]
 lp:=fun e=>by simp[St.forget,e]
 bk:=fun i b hb=>by
  simp only[St.forget] at hb
  split at hb
  ·cases hb
  ·simp only[Option.map_eq_some_iff] at hb
   obtain⟨b0,_,rfl⟩:=hb
   simp only[dR.forget]
   rw[Bool.eq_false_iff]
   intro h
   exact(D.gV h).2 rfl
theorem oO {id j:Nat} {d:D} (h:d.has id=false):(d.forget j).has id=false:=by
 rw[Bool.eq_false_iff];intro e;rw[(D.fB e).1] at h;cases h
theorem Unused.forget {id:Nat} {σ:St} (h:Unused id σ) (j:Nat):Unused id (σ.forget j) where
 fr:=fun t=>oO (h.fr t)
 stk:=fun f hf t=>by
  simp only[St.forget,List.mem_map] at hf
  obtain⟨g,hg,rfl⟩:=hf
  exact oO (h.stk g hg t)
 no:=by simp only[St.forget];split;rfl;rw[h.no];rfl
 lp:=fun e=>by simp only[St.forget];split;rfl;exact h.lp e
 bk:=fun i b hb=>by
  simp only[St.forget] at hb
  split at hb
  ·cases hb
  ·simp only[Option.map_eq_some_iff] at hb
   obtain⟨b0,hb0,rfl⟩:=hb
   simp only[dR.forget]
   rw[Bool.eq_false_iff]
   intro e
   have:=h.bk i b0 hb0
   rw[(D.gV e).1] at this
   cases this
structure QR where
 d:D
 new:List (Nat×List D)
 ro:List Nat
 told:List Nat
 gone:Option Nat
def kX (i:Nat):List (Nat×List D)→Option dR
 |[]=>none
 |(j,cs)::l=>if j=i then some ⟨cs,false⟩ else kX i l
def lm (bk:Nat→Option dR) (r:QR):Nat→Option dR:=fun i=>
 match kX i r.new with
 |some b=>some b
 |none=>if r.gone=some i then none else if i∈r.ro then(bk i).map fun b=>{ b with ro:=true } else bk i
def St.q (σ:St) (dst:Option Tmp) (r:QR):St:=St.put { σ with bk:=lm σ.bk r } dst r.d
def kindOf (P:Program):Op→Nat
 | .move _ | .assign _ | .pick _ _ _ | .build _ _ | .nilCheck _ | .binOp _ _ _ _ _ | .unOp _ _ _ | .convert _ _ _ | .makeFunc _ _ _ | .fieldAddr _ _ _ | .field _ _ _ | .indexAddr _ _ _ | .index _ _ _ | .extract _ _=>0
 | .slice _ _ _ _ (some _)=>0
 | .call ⟨.builtin .len,_,_⟩ | .call ⟨.builtin .max,_,_⟩ | .call ⟨.builtin .min,_,_⟩=>0
 | .load _ _ | .alloc _ | .box _ _ | .buildSlice _ _ _ | .makeSlice _ _ _ | .slice _ _ _ _ none | .call ⟨.value _,_,_⟩ | .call ⟨.builtin .append,_,_⟩=>1
 | .store _ _ _=>2
 | .call ⟨.builtin .copy,_,_⟩=>4
 |_=>3
inductive CO (P:Program) (F:FuncId→List D→D→Prop) (o:Oper) (ρ:Operand→D) (bk:Nat→Option dR):QR→Prop
 |val {d:D}:kindOf P o.op≤1→dB P bk ρ o.type o.op=some (.val d)→CO P F o ρ bk ⟨d,[],[],[],none⟩
 |box {cs:List D} {id:Nat}:kindOf P o.op≤1→dB P bk ρ o.type o.op=some (.box cs)→CO P F o ρ bk ⟨.ptr id 0,[(id,cs)],[],[],none⟩
 |row {cs:List D} {n sz id:Nat}:kindOf P o.op≤1→dB P bk ρ o.type o.op=some (.row cs n sz)→CO P F o ρ bk ⟨.sl id 0 n ⟨sz,0⟩,[(id,cs)],[],[],none⟩
 |app0 {s:D} {sz m id:Nat} {ds:List D}:kindOf P o.op≤1→dB P bk ρ o.type o.op=some (.app s sz m ds)→(s= .emp∨∃ u,s= .v u)→CO P F o ρ bk ⟨.sl id 0 m ⟨sz,0⟩,[(id,ds)],[],[],none⟩
 |appE {sz m id:Nat} {ds:List D}:kindOf P o.op=1→dB P bk ρ o.type o.op=some (jC .emp sz m ds)→(m=0→ds=[])→CO P F o ρ bk ⟨.sl id 0 m ⟨sz,0⟩,[(id,ds)],[],[],none⟩
 |row0:kindOf P o.op≤1→dB P bk ρ o.type o.op=some .row0→CO P F o ρ bk ⟨.emp,[],[],[],none⟩
 |ext {fo:Operand} {args:Array Operand} {f:FuncId} {vs:List Value} {u:Value}:callParts o.op=some (fo,args)→ρ fo= .fn f []→D.qX (args.toList.map ρ)=some vs→
   dA P (callFunc f vs.toArray)=some (.value u)→CO P F o ρ bk ⟨D.l7 u,[],[],[],none⟩
 |call {fo:Operand} {args:Array Operand} {f:FuncId} {caps as:List D} {passed:List Nat} {res:D} {id:Nat}:callParts o.op=some (fo,args)→ρ fo= .fn f caps→(jq P f).isSome=true→
   aN (share bk depth) (args.toList.map ρ ++ caps)=some (as,passed)→F f as res→
   CO P F o ρ bk ⟨(thaw id res).1,(thaw id res).2.zipIdx.map fun (cs,k)=>(id+k,cs),if flat res then[] else passed,passed,none⟩
 |grow {i n m s id:Nat} {sz:Sz} {ds cells:List D}:kindOf P o.op=1→(∃ y∈o.op.operands,ρ y= .sl i 0 n sz)→dB P bk ρ o.type o.op=some (jC (.sl i 0 n sz) s m ds)→(m=0→ds=[]∧sz.s=s)→bk i=some ⟨cells,false⟩→n*s≤cells.length→
   CO P F o ρ bk ⟨.sl id 0 (n+m) ⟨s,0⟩,[(id,cells.take (n*s) ++ ds)],[],[],some i⟩
def Sep (ρ:Operand→D) (o:Oper) (t:Nat) (r:QR):Prop:=(∀ y∈o.op.operands,(ρ y).has t=false)∧t∉r.told
structure Plan where
 zs:Nat→List Nat
 W:Nat→Nat→Bool
 T:Nat→Bool
 S:Nat→List Nat
 U:Nat→Bool
 tgt:Nat→Nat
 Gr:Nat→Bool
def sF (p:Plan) (k:Nat) (d:D):Prop:=∀ l,p.W k l=true→∀ id∈p.zs l,d.has id=false
inductive fC (P:Program) (F:FuncId→List D→D→Prop) (O:Oper→St→St→Prop) (R:Array Oper) (p:Plan) (k:Nat) (o:Oper) (σ:St):St→Prop
 |skip:bf R o σ=some false→fC P F O R p k o σ (σ.q o.dst ⟨.v undef,[],[],[],none⟩)
 |op {r:QR}:bf R o σ=some true→CO P F o (bn σ) σ.bk r→(∀ i cs,(i,cs)∈r.new→i∈p.zs k∧Unused i σ∧∀ j cs',(j,cs')∈r.new→D.bQ i cs'=false)→(r.new.map (·.1)).Nodup→
   sF p k r.d→(∀ i cs,(i,cs)∈r.new→∀ d∈cs,sF p k d)→(kindOf P o.op=0∨∀ j∈p.S k,Sep (bn σ) o (p.tgt j) r)→(∀ g,r.gone=some g→p.Gr k=true∧g=p.tgt k)→fC P F O R p k o σ (σ.q o.dst r)
 |sto {id off:Nat} {ds cells:List D}:bf R o σ=some true→kindOf P o.op=2→dB P σ.bk (bn σ) o.type o.op=some (.sto id off ds)→σ.bk id=some ⟨cells,false⟩→off+ds.length≤cells.length→
   (∀ d∈ds,sF p k d)→(p.U k=true→id=p.tgt k)→fC P F O R p k o σ ((σ.setB id ⟨splice cells off ds,false⟩).put o.dst (.v undef))
 |cpy {id off:Nat} {k':Value} {ds cells:List D}:bf R o σ=some true→kindOf P o.op=4→dB P σ.bk (bn σ) o.type o.op=some (.cpy id off ds k')→σ.bk id=some ⟨cells,false⟩→off+ds.length≤cells.length→
   (∀ d∈ds,sF p k d)→fC P F O R p k o σ ((σ.setB id ⟨splice cells off ds,false⟩).put o.dst (D.l7 k'))
 |oth {σ':St}:p.T k=true→O o σ σ'→(∀ l,p.W k l=true→∀ id∈p.zs l,Unused id σ')→fC P F O R p k o σ σ'
end Go.Dam
end

section
namespace Go.Dam
open Go Go.RowKit
variable [gB]
section
variable {P:Program} {F:FuncId→List D→D→Prop} {R:Array Oper}
theorem yO {bk:Nat→Option dR} {ρ ρ':Operand→D} {ty:TypeId} {op:Op} (h:∀ x∈op.operands,ρ x=ρ' x):dB P bk ρ ty op=dB P bk ρ' ty op:=by
 have pairs:∀ ps:Array (Nat×Operand),(∀ x∈ps.toList.map (·.2),ρ x=ρ' x)→(ps.toList.map fun p=>(p.1,ρ p.2))=(ps.toList.map fun p=>(p.1,ρ' p.2)):=fun ps hp=>
  List.map_congr_left fun p hm=>by rw[hp p.2 (List.mem_map.2 ⟨p,hm,rfl⟩)]
 cases op with
 |move x=>simp only[dB,h x (by simp[Op.operands])]
 |assign x=>simp only[dB,h x (by simp[Op.operands])]
 |pick c a b=>simp only[dB,h c (by simp[Op.operands]),h a (by simp[Op.operands]),h b (by simp[Op.operands])]
 |box t x=>simp only[dB,h x (by simp[Op.operands])]
 |build t ps=>simp only[dB,pairs ps (fun x hx=>h x (by simpa [Op.operands] using hx))]
 |buildSlice t n ps=>simp only[dB,pairs ps (fun x hx=>h x (by simpa [Op.operands] using hx))]
 |load t x=>simp only[dB,h x (by simp[Op.operands])]
 |store t a x=>simp only[dB,h a (by simp[Op.operands]),h x (by simp[Op.operands])]
 |nilCheck x=>simp only[dB,h x (by simp[Op.operands])]
 |binOp o t x y yt=>simp only[dB,h x (by simp[Op.operands]),h y (by simp[Op.operands])]
 |unOp o t x=>simp only[dB,h x (by simp[Op.operands])]
 |convert s d x=>simp only[dB,h x (by simp[Op.operands])]
 |makeFunc f a b=>
  cases f with
  |func f=>
   simp only[dB]
   have:b.toList.map ρ=b.toList.map ρ':=List.map_congr_left fun x hx=>h x (by simp[Op.operands];right;simpa using hx)
   rw[this]
  |_=>rfl
 |makeSlice t l c=>simp only[dB,h l (by simp[Op.operands]),h c (by simp[Op.operands])]
 |slice t x lo hi mx=>
  cases mx with
  |none=>
   simp only[dB,h x (by simp[Op.operands])]
   have e1:lo.map ρ=lo.map ρ':=by cases lo with | none=>rfl | some y=>simp[h y (by simp[Op.operands])]
   have e2:hi.map ρ=hi.map ρ':=by cases hi with | none=>rfl | some y=>simp[h y (by simp[Op.operands])]
   rw[e1,e2]
  |some m=>
   simp only[dB,h x (by simp[Op.operands]),h m (by simp[Op.operands])]
   have e1:lo.map ρ=lo.map ρ':=by cases lo with | none=>rfl | some y=>simp[h y (by simp[Op.operands])]
   have e2:hi.map ρ=hi.map ρ':=by cases hi with | none=>rfl | some y=>simp[h y (by simp[Op.operands])]
   rw[e1,e2]
 |fieldAddr t x f=>simp only[dB,h x (by simp[Op.operands])]
 |field t x f=>simp only[dB,h x (by simp[Op.operands])]
 |indexAddr t x i=>simp only[dB,h x (by simp[Op.operands]),h i (by simp[Op.operands])]
 |index t x i=>simp only[dB,h x (by simp[Op.operands]),h i (by simp[Op.operands])]
 |extract x i=>simp only[dB,h x (by simp[Op.operands])]
 |call c=>
  obtain⟨callee,args,ts⟩:=c
  cases callee with
  |builtin b=>
   have hm:∀ l:List Operand,l ⊆ args.toList→l.map ρ=l.map ρ':=fun l hl=>List.map_congr_left fun x hx=>h x (by simp[Op.operands,Call.operands];simpa using hl hx)
   have hargs:=hm args.toList (fun _ h=>h)
   obtain⟨args⟩:=args
   cases b with
   |len=>
    match args,ts,h with
    |[x],⟨[t]⟩,h=>simp only[dB,h x (by simp[Op.operands,Call.operands])]
    |[],_,_=>simp[dB]
    |_::_::_,_,_=>simp[dB]
    |[_],⟨[]⟩,_=>simp[dB]
    |[_],⟨_::_::_⟩,_=>simp[dB]
   |append=>
    match args,h with
    |[x,y],h=>simp only[dB,h x (by simp[Op.operands,Call.operands]),h y (by simp[Op.operands,Call.operands])]
    |[],_=>simp[dB]
    |[_],_=>simp[dB]
    |_::_::_::_,_=>simp[dB]
   |copy=>
    match args,h with
    |[x,y],h=>simp only[dB,h x (by simp[Op.operands,Call.operands]),h y (by simp[Op.operands,Call.operands])]
    |[],_=>simp[dB]
    |[_],_=>simp[dB]
    |_::_::_::_,_=>simp[dB]
   |clear=>
    match args,h with
    |[x],h=>simp only[dB,h x (by simp[Op.operands,Call.operands])]
    |[],_=>simp[dB]
    |_::_::_,_=>simp[dB]
   |max=>simp only[dB];simp only[hargs]
   |min=>simp only[dB];simp only[hargs]
   |_=>rfl
  |value f=>rfl
  |invoke r m=>rfl
 |_=>rfl
def Agree (N:Nat→Prop) (bk bk':Nat→Option dR):Prop:=∀ i,¬ N i→(bk' i).map dR.cells=(bk i).map dR.cells
theorem Agree.symm {N:Nat→Prop} {bk bk':Nat→Option dR} (h:Agree N bk bk'):Agree N bk' bk:=fun i hi=>(h i hi).symm
theorem Kt {N:Nat→Prop} {bk bk':Nat→Option dR} (h:Agree N bk bk') {d:D} (hd:∀ i,N i→d.has i=false):d.behind bk'=d.behind bk:=by
 cases d with
 |ptr id off=>
  have hn:¬ N id:=fun hN=>by have:=hd id hN;simp[D.has] at this
  have:=h id hn
  simp only[D.behind]
  cases h1:bk id<;>cases h2:bk' id<;>simp[h1,h2] at this ⊢
  exact this
 |pel id i n j=>
  have hn:¬ N id:=fun hN=>by have:=hd id hN;simp[D.has] at this
  have:=h id hn
  simp only[D.behind]
  cases h1:bk id<;>cases h2:bk' id<;>simp[h1,h2] at this ⊢
  exact this
 |_=>rfl
theorem LY {bk bk':Nat→Option dR} {t:TypeId} {x:D} {lo hi:Option D} (h:∀ id off,x= .ptr id off→(bk' id).map dR.cells=(bk id).map dR.cells):sN P bk' t x lo hi=sN P bk t x lo hi:=by
 by_cases hp:∃ id off,x= .ptr id off
 ·obtain⟨id,off,rfl⟩:=hp
  have hid:=h id off rfl
  show jS P bk' t _ lo hi=jS P bk t _ lo hi
  unfold jS
  cases P.underlying t with
  |none=>rfl
  |some u=>
   cases u with
   |array n elem=>
    simp only[]
    cases P.info? elem with
    |none=>rfl
    |some j=>
     cases di hi n n with
     |none=>rfl
     |some h'=>
      simp only[]
      cases di lo 0 h' with
      |none=>rfl
      |some l=>
       simp only[]
       cases h1:bk id with
       |none=>cases h2:bk' id with
        |none=>rfl
        |some b'=>rw[h1,h2] at hid;simp at hid
       |some b=>cases h2:bk' id with
        |none=>rw[h1,h2] at hid;simp at hid
        |some b'=>rw[h1,h2] at hid;simp at hid;simp only[hid]
   |_=>rfl
 ·suffices hs:jS P bk' t x lo hi=jS P bk t x lo hi by
   unfold sN;split
   ·rfl
   ·exact hs
  unfold jS
  cases P.underlying t with
  |none=>rfl
  |some u=>
   cases x with
   |ptr id off=>exact absurd ⟨id,off,rfl⟩ hp
   |v y=>cases u<;>cases y<;>first | rfl | (rename_i o n c;cases o<;>cases n<;>cases c<;>rfl)
   |_=>cases u<;>rfl
theorem MQ {bk bk':Nat→Option dR} {size:Nat} {x:D} (h:∀ id off n sz,x= .sl id off n sz→(bk' id).map dR.cells=(bk id).map dR.cells):x.elems bk' size=x.elems bk size:=by
 cases x with
 |sl id off n sz=>
  have hid:=h id off n sz rfl
  simp only[D.elems]
  cases h1:bk id with
  |none=>cases h2:bk' id with
   |none=>rfl
   |some b'=>rw[h1,h2] at hid;simp at hid
  |some b=>cases h2:bk' id with
   |none=>rw[h1,h2] at hid;simp at hid
   |some b'=>rw[h1,h2] at hid;simp at hid;simp only[hid]
 |v y=>
  cases y with
  |slice o n c=>cases o<;>cases n<;>cases c<;>rfl
  |_=>rfl
 |_=>rfl
theorem zM {N:Nat→Prop} {bk bk':Nat→Option dR} (h:Agree N bk bk') {ρ:Operand→D} {ty:TypeId} {op:Op} (hk:kindOf P op≤1) (hn:∀ x∈op.operands,∀ i,N i→(ρ x).has i=false):dB P bk' ρ ty op=dB P bk ρ ty op:=by
 cases op with
 |load t a=>simp only[dB,LK,Kt h (hn a (by simp[Op.operands]))]
 |slice t x lo hi mx=>
  cases mx with
  |none=>
   simp only[dB]
   refine LY (fun id off hρ=>h id fun hN=>?_)
   have:=hn x (by simp[Op.operands]) id hN
   rw[hρ] at this
   simp[D.has] at this
  |some _=>rfl
 |store t a x=>simp[kindOf] at hk
 |call c=>
  obtain⟨callee,args,ts⟩:=c
  cases callee with
  |builtin b=>
   obtain⟨args⟩:=args
   obtain⟨ts⟩:=ts
   have key:∀ y∈args,∀ size,(ρ y).elems bk' size=(ρ y).elems bk size:=fun y hy size=>MQ (fun id off n sz hρ=>h id fun hN=>by
    have:=hn y (by simp[Op.operands,Call.operands,hy]) id hN
    rw[hρ] at this
    simp[D.has] at this)
   cases b with
   |append=>
    rcases args with _ | ⟨x,_ | ⟨y,_ | ⟨z,l⟩⟩⟩
    ·rfl
    ·rfl
    ·simp only[dB,jd,key y (by simp)]
    ·rfl
   |len=>rcases args with _ | ⟨x,_ | ⟨y,l⟩⟩<;>rcases ts with _ | ⟨t,_ | ⟨u,m⟩⟩<;>rfl
   |_=>first | rfl | (simp[kindOf] at hk;done)
  |value f=>rfl
  |invoke r m=>rfl
 |makeFunc f a b=>cases f<;>rfl
 |_=>rfl
theorem rQ {bk bk':Nat→Option dR} {ρ:Operand→D} {ty:TypeId} {op:Op} (hk:kindOf P op=0):dB P bk' ρ ty op=dB P bk ρ ty op:=by
 cases op with
 |load t a=>simp[kindOf] at hk
 |slice t x lo hi mx=>cases mx with | none=>simp[kindOf] at hk | some _=>rfl
 |store t a x=>simp[kindOf] at hk
 |call c=>
  obtain⟨callee,args,ts⟩:=c
  cases callee with
  |builtin b=>
   obtain⟨args⟩:=args
   obtain⟨ts⟩:=ts
   cases b<;>first | rfl | (simp[kindOf] at hk;done) | (rcases args with _ | ⟨x,_ | ⟨y,l⟩⟩<;>rcases ts with _ | ⟨t,_ | ⟨u,m⟩⟩<;>rfl)
  |value f=>simp[kindOf] at hk
  |invoke r m=>rfl
 |makeFunc f a b=>cases f<;>rfl
 |_=>rfl
mutual
theorem Ol {N:Nat→Prop} {bk bk':Nat→Option dR} (h:Agree N bk bk') (hb:∀ i b,bk i=some b→∀ n,N n→D.bQ n b.cells=false):∀ (k:Nat) (d:D),(∀ i,N i→d.has i=false)→share bk' k d=share bk k d
 |0, .undef,_ | 0, .yld,_ | 0, .emp,_ | 0, .rc _,_ | 0, .oc _,_ | 0, .pel _ _ _ _,_ | 0, .v _,_ | 0, .sh _ _,_ | 0, .ow _ _ _,_ | 0, .sl _ _ _ _,_ | 0, .ptr _ _,_ | 0, .shp _ _,_ | 0, .agg _,_ | 0, .bF _,_=>rfl
 |0, .fn _ cs,_=>by cases cs<;>rfl
 |k+1, .sl id off n sz,hd=>by
  have hn:¬ N id:=fun hN=>by have:=hd id hN;simp[D.has] at this
  have hid:=h id hn
  simp only[share]
  cases h1:bk id with
  |none=>cases h2:bk' id with
   |none=>rfl
   |some b'=>rw[h1,h2] at hid;simp at hid
  |some b=>cases h2:bk' id with
   |none=>rw[h1,h2] at hid;simp at hid
   |some b'=>
    rw[h1,h2] at hid
    simp at hid
    simp only[hid]
    have hcs:∀ i,N i→D.bQ i ((b.cells.drop off).take (n*sz))=false:=fun i hi=>Nc (hb id b h1 i hi) _ _
    have e:share.aN (share bk' k) ((b.cells.drop off).take (n*sz))=share.aN (share bk k) ((b.cells.drop off).take (n*sz)):=iT h hb k _ hcs
    rw[e]
 |k+1, .agg cs,hd=>by
  simp only[share]
  have e:share.aN (share bk' k) cs=share.aN (share bk k) cs:=iT h hb k cs (fun i hi=>by simpa [D.has] using hd i hi)
  rw[e]
 |k+1, .undef,_=>rfl
 |k+1, .v _,_=>rfl
 |k+1, .yld,_=>rfl
 |k+1, .sh _ _,_=>rfl
 |k+1, .rc _,_=>rfl
 |k+1, .oc _,_=>rfl
 |k+1, .pel _ _ _ _,_=>rfl
 |k+1, .ow _ _ _,_=>rfl
 |k+1, .ptr _ _,_=>rfl
 |k+1, .shp _ _,_=>rfl
 |k+1, .emp,_=>rfl
 |k+1, .fn _ cs,_=>by cases cs<;>rfl
 |k+1, .bF _,_=>rfl
theorem iT {N:Nat→Prop} {bk bk':Nat→Option dR} (h:Agree N bk bk') (hb:∀ i b,bk i=some b→∀ n,N n→D.bQ n b.cells=false):∀ (k:Nat) (ds:List D),(∀ i,N i→D.bQ i ds=false)→aN (share bk' k) ds=aN (share bk k) ds
 |_,[],_=>rfl
 |k,d::ds,hd=>by
  have e:share.aN (share bk' k) ds=share.aN (share bk k) ds:=iT h hb k ds (fun i hi=>by have:=hd i hi;simp[D.bQ] at this;exact this.2)
  simp only[share.aN]
  rw[e,Ol h hb k d (fun i hi=>by have:=hd i hi;simp[D.bQ] at this;exact this.1)]
theorem Nc {i:Nat} {cs:List D} (h:D.bQ i cs=false) (a b:Nat):D.bQ i ((cs.drop a).take b)=false:=by
 have hd:∀ (a:Nat) (cs:List D),D.bQ i cs=false→D.bQ i (cs.drop a)=false:=by
  intro a
  induction a with
  |zero=>intro cs h;simpa using h
  |succ a ih=>
   intro cs h
   cases cs with
   |nil=>simpa using h
   |cons d ds=>simp[D.bQ] at h;simpa using ih ds h.2
 have ht:∀ (b:Nat) (cs:List D),D.bQ i cs=false→D.bQ i (cs.take b)=false:=by
  intro b
  induction b with
  |zero=>intro cs h;simp[D.bQ]
  |succ b ih=>
   intro cs h
   cases cs with
   |nil=>simp[D.bQ]
   |cons d ds=>simp[D.bQ] at h;simp[D.bQ,h.1,ih ds h.2]
 exact ht b _ (hd a cs h)
end
theorem PI {n:Nat} {bk bk':Nat→Option dR} (h:Agree (·=n) bk bk'):∀ (k:Nat) (d e:D) (ids:List Nat),share bk k d=some (e,ids)→n∉ids→share bk' k d=some (e,ids):=by
 intro k
 induction k with
 |zero=>
  intro d e ids hd _
  cases d with
  |fn f cs=>cases cs<;>exact hd
  |_=>exact hd
 |succ k ih=>
  have hall:∀ (ds es:List D) (ids:List Nat),aN (share bk k) ds=some (es,ids)→n∉ids→aN (share bk' k) ds=some (es,ids):=by
   intro ds
   induction ds with
   |nil=>intro es ids hd _;exact hd
   |cons d ds ihd=>
    intro es ids hd hn
    simp only[share.aN] at hd ⊢
    split at hd
    next e i es' is' h1 h2=>
     simp at hd;obtain⟨rfl,rfl⟩:=hd
     have e2:=ihd es' is' h2 (fun hm=>hn (by simp[hm]))
     simp only[aN] at e2
     rw[ih d e i h1 (fun hm=>hn (by simp[hm])),e2]
    ·cases hd
  intro d e ids hd hn
  cases d with
  |sl id off m sz=>
   simp only[share] at hd ⊢
   split at hd
   ·cases hd
   next b hb=>
    split at hd
    next hl=>
     split at hd
     ·cases hd
     next cs is h1=>
      simp at hd;obtain⟨rfl,rfl⟩:=hd
      have hne:¬ id=n:=fun e=>hn (by simp[e])
      have hid:=h id hne
      cases h2:bk' id with
      |none=>rw[hb,h2] at hid;simp at hid
      |some b'=>
       rw[hb,h2] at hid
       simp at hid
       simp only[hid,hl,if_true]
       have e:=hall _ _ _ h1 (fun hm=>hn (by simp[hm]))
       simp only[aN] at e
       rw[e]
    ·cases hd
  |agg cs=>
   simp only[share] at hd ⊢
   split at hd
   ·cases hd
   next ds is h1=>
    simp at hd;obtain⟨rfl,rfl⟩:=hd
    have e:=hall _ _ _ h1 hn
    simp only[aN] at e
    rw[e]
  |fn f cs=>cases cs<;>exact hd
  |_=>exact hd
theorem kK {n:Nat} {bk bk':Nat→Option dR} (h:Agree (·=n) bk bk') (k:Nat):∀ (ds es:List D) (ids:List Nat),aN (share bk k) ds=some (es,ids)→n∉ids→aN (share bk' k) ds=some (es,ids)
 |[],es,ids,hd,_=>hd
 |d::ds,es,ids,hd,hn=>by
  simp only[share.aN] at hd ⊢
  split at hd
  next e i es' is' h1 h2=>
   simp at hd;obtain⟨rfl,rfl⟩:=hd
   have e2:=kK h k ds es' is' h2 (fun hm=>hn (by simp[hm]))
   simp only[aN] at e2
   rw[PI h k d e i h1 (fun hm=>hn (by simp[hm])),e2]
  ·cases hd
end
end Go.Dam
end

section
namespace Go.Dam
open Go Go.RowKit
variable [gB]
section
variable {P:Program} {F:FuncId→List D→D→Prop} {R:Array Oper}
def Same (R:Array Oper) (o:Oper) (σ σ':St):Prop:=∀ t∈o.looksAt R,σ'.fr.tm t=σ.fr.tm t
theorem Same.symm {o:Oper} {σ σ':St} (h:Same R o σ σ'):Same R o σ' σ:=fun t ht=>(h t ht).symm
theorem Same.eval {o:Oper} {σ σ':St} (h:Same R o σ σ'):∀ x∈o.op.operands,bn σ' x=bn σ x:=by
 intro x hx
 cases x with
 |tmp t=>exact h t (by simp[Oper.looksAt];left;exact⟨_,hx,rfl⟩)
 |_=>rfl
theorem Same.wanted {o:Oper} {σ σ':St} (h:Same R o σ σ'):bf R o σ'=bf R o σ:=by
 unfold bf
 cases hg:o.guard with
 |none=>rfl
 |some g=>
  obtain⟨j,want⟩:=g
  simp only[]
  cases hd:(R[j]?).bind (·.dst) with
  |none=>rfl
  |some t=>
   simp only[]
   rw[h t (by simp[Oper.looksAt,hg,hd])]
theorem sV {o oi:Oper} {σ:St} {r:QR} (h:∀ d,oi.dst=some d→d∉o.looksAt R):Same R o σ (σ.q oi.dst r):=by
 intro t ht
 cases hd:oi.dst with
 |none=>rfl
 |some d=>
  have hne:t≠d:=fun e=>h d hd (e▸ht)
  simp[St.q,St.put,Fr.put,hne]
theorem Es {o oi:Oper} {σ:St} {id:Nat} {b:dR} (h:∀ d,oi.dst=some d→d∉o.looksAt R):Same R o σ ((σ.setB id b).put oi.dst (.v undef)):=by
 intro t ht
 cases hd:oi.dst with
 |none=>rfl
 |some d=>
  have hne:t≠d:=fun e=>h d hd (e▸ht)
  simp[St.put,Fr.put,hne,St.setB]
theorem rM {i:Nat} {b:dR}:∀ {l:List (Nat×List D)},kX i l=some b→∃ cs,(i,cs)∈l∧b=⟨cs,false⟩
 |(j,cs)::l,h=>by
  simp only[kX] at h
  split at h
  next e=>subst e;simp at h;exact⟨cs,by simp,h.symm⟩
  next=>obtain⟨cs',h1,h2⟩:=rM h;exact⟨cs',by simp[h1],h2⟩
theorem fQ {i:Nat}:∀ {l:List (Nat×List D)},(∀ cs,(i,cs)∉l)→kX i l=none
 |[],_=>rfl
 |(j,cs)::l,h=>by
  simp only[kX]
  rw[if_neg (fun e=>h cs (by simp[e])),fQ (fun c hc=>h c (by simp[hc]))]
theorem zU {i:Nat}:∀ {cs:List D},D.bQ i cs=true→∃ d∈cs,d.has i=true
 |d::ds,h=>by
  simp only[D.bQ,Bool.or_eq_true] at h
  rcases h with h | h
  ·exact⟨d,by simp,h⟩
  ·obtain⟨e,h1,h2⟩:=zU h;exact⟨e,by simp[h1],h2⟩
theorem bV {i:Nat} {cs:List D} (h:∀ d∈cs,d.has i=false):D.bQ i cs=false:=by
 rw[Bool.eq_false_iff];intro e
 obtain⟨d,h1,h2⟩:=zU e
 rw[h d h1] at h2;cases h2
theorem lK {i:Nat}:∀ {cs:List D},D.bQ i cs=false→∀ d∈cs,d.has i=false
 |d::ds,h,e,he=>by
  simp[D.bQ] at h
  rcases List.mem_cons.1 he with rfl | he
  ·exact h.1
  ·exact lK h.2 e he
theorem ab7 {bk:Nat→Option dR} {r:QR}:Agree (fun i=>(∃ cs,(i,cs)∈r.new)∨r.gone=some i) bk (lm bk r):=by
 intro i hi
 simp only[lm]
 rw[fQ (fun cs hc=>hi (.inl ⟨cs,hc⟩))]
 simp only[]
 rw[if_neg fun h=>hi (.inr h)]
 split
 ·cases bk i<;>rfl
 ·rfl
theorem XU {o:Oper} {ρ ρ':Operand→D} {bk bk':Nat→Option dR} {r:QR} (h:CO P F o ρ bk r) (hρ:∀ x∈o.op.operands,ρ' x=ρ x)
  (hop:kindOf P o.op≤1→dB P bk' ρ o.type o.op=dB P bk ρ o.type o.op) (hsh:∀ fo args (f:FuncId) (caps as:List D) passed,callParts o.op=some (fo,args)→ρ fo= .fn f caps→aN (share bk depth) (args.toList.map ρ ++ caps)=some (as,passed)→r.told=passed→
   aN (share bk' depth) (args.toList.map ρ ++ caps)=some (as,passed)) (hgo:∀ g,r.gone=some g→bk' g=bk g):CO P F o ρ' bk' r:=by
 have hcong:kindOf P o.op≤1→dB P bk' ρ' o.type o.op=dB P bk ρ o.type o.op:=fun hk=>(yO hρ).trans (hop hk)
 have hparts:∀ fo args,callParts o.op=some (fo,args)→ρ' fo=ρ fo∧args.toList.map ρ'=args.toList.map ρ:=by
  intro fo args hc
  cases hopc:o.op with
  |call c=>
   rw[hopc] at hc
   obtain⟨callee,as,ts⟩:=c
   cases callee with
   |value g=>
    simp[callParts] at hc
    obtain⟨rfl,rfl⟩:=hc
    refine⟨hρ _ (by rw[hopc];simp[Op.operands,Call.operands]),List.map_congr_left fun x hx=>hρ x (by rw[hopc];simp[Op.operands,Call.operands];right;simpa using hx)⟩
   |_=>simp[callParts] at hc
  |_=>rw[hopc] at hc;simp[callParts] at hc
 cases h with
 |val hk h1=>exact .val hk ((hcong hk).trans h1)
 |box hk h1=>exact .box hk ((hcong hk).trans h1)
 |row hk h1=>exact .row hk ((hcong hk).trans h1)
 |row0 hk h1=>exact .row0 hk ((hcong hk).trans h1)
 |app0 hk h1 hs=>exact .app0 hk ((hcong hk).trans h1) hs
 |appE hk h1 hz=>exact .appE hk ((hcong (by omega)).trans h1) hz
 |grow hk hy h1 hz hb hl=>
  obtain⟨y,y1,y2⟩:=hy
  exact .grow hk ⟨y,y1,(hρ y y1).trans y2⟩ ((hcong (by omega)).trans h1) hz ((hgo _ rfl).trans hb) hl
 |ext h1 h2 h3 h4=>
  obtain⟨e1,e2⟩:=hparts _ _ h1
  exact .ext h1 (e1.trans h2) (by rw[e2];exact h3) h4
 |@call fo args f caps as passed res id h1 h2 h3 h4 h5=>
  obtain⟨e1,e2⟩:=hparts _ _ h1
  refine .call h1 (e1.trans h2) h3 ?_ h5
  rw[e2]
  exact hsh fo args f caps as passed h1 h2 h4 rfl
theorem RZ (v:Value) (id:Nat):(D.l7 v).has id=false:=by
 cases v with
 |agg cs=>
  simp only[D.l7,D.has]
  refine bV fun d hd=>?_
  simp only[List.mem_map] at hd
  obtain⟨x,_,rfl⟩:=hd
  rfl
 |tuple cs=>
  simp only[D.l7,D.has]
  refine bV fun d hd=>?_
  simp only[List.mem_map] at hd
  obtain⟨x,_,rfl⟩:=hd
  rfl
 |_=>rfl
theorem Unused.eval {id:Nat} {σ:St} (h:Unused id σ) (x:Operand):(bn σ x).has id=false:=by
 cases x with
 |tmp t=>exact h.fr t
 |const v=>exact RZ v id
 |global g=>
  show(Zx (gB.g g)).has id=false
  cases gB.g g<;>rfl
 |func f=>simp[bn,D.has,D.bQ]
theorem VR {bk:Nat→Option dR} {i:Nat} (hb:∀ j b,bk j=some b→D.bQ i b.cells=false):∀ (k:Nat) (d e:D) (ids:List Nat),share bk k d=some (e,ids)→d.has i=false→i∉ids:=by
 intro k
 induction k with
 |zero=>
  intro d e ids h _
  cases d with
  |v x=>simp only[share,Option.some.injEq,Prod.mk.injEq] at h;obtain⟨_,rfl⟩:=h;simp
  |emp=>simp only[share,Option.some.injEq,Prod.mk.injEq] at h;obtain⟨_,rfl⟩:=h;simp
  |rc cs=>simp only[share,Option.some.injEq,Prod.mk.injEq] at h;obtain⟨_,rfl⟩:=h;simp
  |sh n cs=>simp only[share,Option.some.injEq,Prod.mk.injEq] at h;obtain⟨_,rfl⟩:=h;simp
  |fn f cs=>cases cs with
   |nil=>simp only[share,Option.some.injEq,Prod.mk.injEq] at h;obtain⟨_,rfl⟩:=h;simp
   |cons _ _=>simp[share] at h
  |_=>simp[share] at h
 |succ k ih=>
  have hall:∀ (ds es:List D) (ids:List Nat),aN (share bk k) ds=some (es,ids)→D.bQ i ds=false→i∉ids:=by
   intro ds
   induction ds with
   |nil=>intro es ids h _;simp[share.aN] at h;obtain⟨_,rfl⟩:=h;simp
   |cons d ds ihd=>
    intro es ids h hn
    simp only[share.aN] at h
    split at h
    next e j es' is' h1 h2=>
     simp at h;obtain⟨rfl,rfl⟩:=h
     simp[D.bQ] at hn
     simp[ih d e j h1 hn.1,ihd es' is' h2 hn.2]
    ·cases h
  intro d e ids h hd
  cases d with
  |v x=>simp only[share,Option.some.injEq,Prod.mk.injEq] at h;obtain⟨_,rfl⟩:=h;simp
  |emp=>simp only[share,Option.some.injEq,Prod.mk.injEq] at h;obtain⟨_,rfl⟩:=h;simp
  |rc cs=>simp only[share,Option.some.injEq,Prod.mk.injEq] at h;obtain⟨_,rfl⟩:=h;simp
  |sh n cs=>simp only[share,Option.some.injEq,Prod.mk.injEq] at h;obtain⟨_,rfl⟩:=h;simp
  |fn f cs=>cases cs with
   |nil=>simp only[share,Option.some.injEq,Prod.mk.injEq] at h;obtain⟨_,rfl⟩:=h;simp
   |cons _ _=>simp[share] at h
  |agg cs=>
   simp only[share] at h
   split at h
   ·cases h
   next ds is h1=>
    simp at h;obtain⟨rfl,rfl⟩:=h
    exact hall cs ds is h1 (by simpa [D.has] using hd)
  |sl id off n sz=>
   simp only[share] at h
   split at h
   ·cases h
   next b hbk=>
    split at h
    next hl=>
     split at h
     ·cases h
     next cs is h1=>
      simp at h;obtain⟨rfl,rfl⟩:=h
      have h2:=hall _ _ _ h1 (Nc (hb id b hbk) _ _)
      simp[D.has] at hd
      simp[h2,Ne.symm hd]
    ·cases h
  |_=>simp[share] at h
theorem yw {bk:Nat→Option dR} {i:Nat} (hb:∀ j b,bk j=some b→D.bQ i b.cells=false) {k:Nat}:∀ (ds es:List D) (ids:List Nat),aN (share bk k) ds=some (es,ids)→D.bQ i ds=false→i∉ids
 |[],es,ids,h,_=>by simp[share.aN] at h;obtain⟨_,rfl⟩:=h;simp
 |d::ds,es,ids,h,hn=>by
  simp only[share.aN] at h
  split at h
  next e j es' is' h1 h2=>
   simp at h;obtain⟨rfl,rfl⟩:=h
   simp[D.bQ] at hn
   simp[VR hb k d e j h1 hn.1,yw hb ds es' is' h2 hn.2]
  ·cases h
theorem Ze {o:Oper} {σ:St} {r:QR} (h:CO P F o (bn σ) σ.bk r) {id:Nat} (hu:∀ j b,σ.bk j=some b→D.bQ id b.cells=false) (he:∀ x∈o.op.operands,(bn σ x).has id=false):id∉r.ro:=by
 cases h with
 |call h1 h2 h3 h4 h5=>
  simp only[]
  split
  ·simp
  ·refine yw hu _ _ _ h4 (bV fun d hd=>?_)
   cases hopc:o.op with
   |call c=>
    rw[hopc] at h1
    obtain⟨callee,as,ts⟩:=c
    cases callee with
    |value g=>
     simp[callParts] at h1
     obtain⟨rfl,rfl⟩:=h1
     rcases List.mem_append.1 hd with hd | hd
     ·simp only[List.mem_map] at hd
      obtain⟨x,hx,rfl⟩:=hd
      exact he x (by rw[hopc];simp[Op.operands,Call.operands];right;simpa using hx)
     ·have:=he g (by rw[hopc];simp[Op.operands,Call.operands])
      rw[h2] at this
      exact lK (by simpa [D.has] using this) d hd
    |_=>simp[callParts] at h1
   |_=>rw[hopc] at h1;simp[callParts] at h1
 |_=>simp
theorem Fr.put_comm (f:Fr) {s t:Nat} (h:s≠t) (d e:D):(f.put s d).put t e=(f.put t e).put s d:=by
 simp only[Fr.put]
 congr 1
 funext i
 by_cases h1:i=t
 ·subst h1;rw[if_pos rfl,if_neg (Ne.symm h),if_pos rfl];rfl
 ·by_cases h2:i=s
  ·subst h2;rw[if_neg h,if_pos rfl,if_pos rfl];rfl
  ·rw[if_neg h1,if_neg h2,if_neg h2,if_neg h1]
theorem St.put_comm (σ:St) {s t:Option Tmp} (h:∀ d,s=some d→t≠some d) (d e:D):(σ.put s d).put t e=(σ.put t e).put s d:=by
 cases s with
 |none=>rfl
 |some s=>
  cases t with
  |none=>rfl
  |some t=>
   have hne:s≠t:=fun e=>h s rfl (by rw[e])
   simp only[St.put,Fr.put_comm _ hne]
theorem qP {id:Nat} {σ:St} {dst:Option Tmp} {r:QR} (h:Unused id σ) (hd:r.d.has id=false) (hn:∀ cs,(id,cs)∉r.new) (hc:∀ i cs,(i,cs)∈r.new→D.bQ id cs=false):Unused id (σ.q dst r) where
 fr:=fun t=>by
  cases dst with
  |none=>exact h.fr t
  |some s=>
   simp only[St.q,St.put,Fr.put]
   split
   ·split
    ·exact hd
    ·rfl
   ·exact h.fr t
 stk:=fun f hf=>by
  have:(σ.q dst r).stk=σ.stk:=by cases dst<;>rfl
  rw[this] at hf
  exact h.stk f hf
 lp:=fun e=>by
  have:(σ.q dst r).loop=σ.loop:=by cases dst<;>rfl
  rw[this];exact h.lp e
 no:=by
  have:(σ.q dst r).bk=lm σ.bk r:=by cases dst<;>rfl
  rw[this]
  simp only[lm,fQ hn,h.no]
  split
  ·rfl
  ·split<;>rfl
 bk:=fun i b hb=>by
  have:(σ.q dst r).bk=lm σ.bk r:=by cases dst<;>rfl
  rw[this] at hb
  simp only[lm] at hb
  split at hb
  next b' hb'=>
   simp at hb;subst hb
   obtain⟨cs,h1,rfl⟩:=rM hb'
   exact hc i cs h1
  next=>
   split at hb
   ·cases hb
   ·split at hb
    ·simp only[Option.map_eq_some_iff] at hb
     obtain⟨b0,h1,rfl⟩:=hb
     exact h.bk i b0 h1
    ·exact h.bk i b hb
end
end Go.Dam
end
