/- The engine: an abstract machine for the program's functions, proved right against the model. No condition. -/
import Derived.Test.YtfoelbdkgaliaaaDamXE
import Derived.WalkKit
import Derived.ProofKit
import Derived.OpenShut
import Derived.ChangeOld
import Derived.Below
import Derived.Carry
import Derived.SizedLaws
import Derived.Deep.SlicePairs
set_option linter.unusedSectionVars false
set_option linter.unusedVariables false
set_option linter.unusedSimpArgs false
section
namespace Go.Dam
open Go Go.RowKit
variable [gB]
noncomputable section
def qN (i:Nat):List (Nat×Nat)→Option Nat
 |[]=>none
 |(k,j)::l=>bif Nat.beq k i then some j else qN i l
mutual
def D.ren (l:List (Nat×Nat)):D→D
 | .sl i off n sz=>match qN i l with
  |some j=> .sl j off n sz
  |none=> .undef
 | .ptr i off=>match qN i l with
  |some j=> .ptr j off
  |none=> .undef
 | .pel i a b c=>match qN i l with
  |some j=> .pel j a b c
  |none=> .undef
 | .agg cs=> .agg (D.vz l cs)
 | .bF cs=> .bF (D.vz l cs)
 | .fn f cs=> .fn f (D.vz l cs)
 |d=>d
def D.vz (l:List (Nat×Nat)):List D→List D
 |[]=>[]
 |d::ds=>D.ren l d::D.vz l ds
end
def BX.ren (l:List (Nat×Nat)):BX→BX
 | .cells cs ro=> .cells (D.vz l cs) ro
 | .row cols ro=> .row cols ro
def IX (t:TT):List Nat→TT
 |[]=> .lf
 |k::ks=>(IX t ks).set (t.get (path k)) (path k)
def TT.of:List (Nat×D)→TT
 |[]=> .lf
 |(k,d)::l=>(TT.of l).set d (path k)
theorem Ir (t:TT) (k:Nat):∀ ks,(IX t ks).get (path k)=if k∈ks then t.get (path k) else .undef
 |[]=>by simp[IX,QH]
 |j::ks=>by
  simp only[IX,TT.CX,Ir t k ks]
  by_cases h:k=j
  ·subst h;simp
  ·rw[if_neg (fun e=>h (Og e))];simp[h]
def FU (bk:List (Nat×BX)) (l:List (Nat×Nat)):List (Nat×Nat)→List (Nat×BX)
 |[]=>[]
 |(i,j)::m=>match bP i bk with
  |some b=>(j,b.ren l)::FU bk l m
  |none=>FU bk l m
def Tq (l:List (Nat×Nat)) (f:TT×Nat) (ks:List Nat):TT×Nat:=((IX f.1 ks).map (D.ren l),f.2)
def EW (l:List (Nat×Nat)):List (TT×Nat)→List (List Nat)→List (TT×Nat)
 |[],_=>[]
 |f::fs,[]=>Tq l f []::EW l fs []
 |f::fs,k::ks=>Tq l f k::EW l fs ks
def Cs.norm (c:Cs) (keep:List (List Nat)) (l:List (Nat×Nat)):Cs:=
 { tm:=(Tq l (c.tm,c.nt) (keep.headD [])).1,nt:=c.nt,stk:=EW l c.stk keep.tail,bk:=FU c.bk l l,loop:=c.loop,gen:=0 }
def mY:List (Nat×Nat)→Bool
 |[]=>true
 |(i,j)::l=>(!(Nat.beq j dI)) && (l.all (fun p=>!(Nat.beq p.1 i) && !(Nat.beq p.2 j)) && mY l)
theorem lH:∀ {l:List (Nat×Nat)},mY l=true→(∀ i j,(i,j)∈l→qN i l=some j∧j≠dI)∧∀ i i' j,(i,j)∈l→(i',j)∈l→i=i'
 |[],_=>⟨fun i j h=>(by cases h),fun i i' j h=>(by cases h)⟩
 |(a,b)::l,h=>by
  simp only[mY,Bool.and_eq_true,Bool.not_eq_true',List.all_eq_true,Prod.forall] at h
  obtain⟨h1,h2,h3⟩:=h
  obtain⟨k1,k2⟩:=lH h3
  have hb:b≠dI:=fun e=>by rw[e,fM] at h1;cases h1
  refine⟨fun i j hm=>?_,fun i i' j hm hm'=>?_⟩
  ·simp only[List.mem_cons,Prod.mk.injEq] at hm
   rcases hm with⟨rfl,rfl⟩ | hm
   ·exact⟨by simp[qN,fM],hb⟩
   ·have hne:a≠i:=fun e=>by subst e;have:=(h2 a j hm).1;rw[fM] at this;cases this
    simp only[qN,iK hne,cond_false]
    exact k1 i j hm
  ·simp only[List.mem_cons,Prod.mk.injEq] at hm hm'
   rcases hm with⟨e1,e2⟩ | hm<;>rcases hm' with⟨e3,e4⟩ | hm'
   ·rw[e1,e3]
   ·have:=(h2 i' _ hm').2;rw[e2,fM] at this;cases this
   ·have:=(h2 i _ hm).2;rw[e4,fM] at this;cases this
   ·exact k2 i i' j hm hm'
theorem Ji:∀ {l:List (Nat×Nat)} {i j:Nat},qN i l=some j→(i,j)∈l
 |[],_,_,h=>by simp[qN] at h
 |(a,b)::l,i,j,h=>by
  simp only[qN,cond_eq_ite] at h
  split at h
  next e=>have:=Nat.eq_of_beq_eq_true e;simp at h;subst this;subst h;simp
  next=>simp[Ji h]
def SY (j:Nat):List (Nat×Nat)→Option Nat
 |[]=>none
 |(i,k)::l=>if k=j then some i else SY j l
theorem IG {j:Nat}:∀ {l:List (Nat×Nat)} {i:Nat},mY l=true→(i,j)∈l→SY j l=some i
 |[],i,_,h=>by cases h
 |(a,b)::l,i,ho,h=>by
  simp only[SY]
  split
  next e=>
   subst e
   rw[(lH ho).2 i a b h (by simp)]
  next e=>
   simp only[List.mem_cons,Prod.mk.injEq] at h
   rcases h with⟨rfl,rfl⟩ | h
   ·exact absurd rfl e
   ·simp only[mY,Bool.and_eq_true] at ho
    exact IG ho.2.2 h
def kZ (β:Env) (l:List (Nat×Nat)):Env:=fun k=>if k=dI then β dI else(SY k l).bind β
theorem tC {β:Env} {l:List (Nat×Nat)} (ho:mY l=true) {i j:Nat} (h:qN i l=some j):kZ β l j=β i:=by
 have hm:=Ji h
 unfold kZ
 rw[if_neg ((lH ho).1 i j hm).2,IG ho hm]
 rfl
mutual
theorem Js {w:World} {A:Nat→Prop} {β:Env} {l:List (Nat×Nat)} (ho:mY l=true):∀ (d:D) (u:Value),Rep w A β d u→Rep w A (kZ β l) (d.ren l) u
 | .sl i off n sz,u,h=>by
  simp only[D.ren]
  split
  next j hj=>
   simp only[Rep] at h ⊢
   rw[tC ho hj];exact h
  next=>simp[Rep,aC]
 | .ptr i off,u,h=>by
  simp only[D.ren]
  split
  next j hj=>
   simp only[Rep] at h ⊢
   rw[tC ho hj];exact h
  next=>simp[Rep,aC]
 | .pel i a b c,u,h=>by
  simp only[D.ren]
  split
  next j hj=>
   simp only[Rep] at h ⊢
   rw[tC ho hj];exact h
  next=>simp[Rep,aC]
 | .agg cs,u,h=>by
  simp only[Rep,D.ren] at h ⊢
  obtain⟨vs,rfl,h⟩:=h
  exact⟨vs,rfl,yC ho cs vs h⟩
 | .bF cs,u,h=>by
  simp only[Rep,D.ren] at h ⊢
  obtain⟨vs,rfl,h⟩:=h
  exact⟨vs,rfl,yC ho cs vs h⟩
 | .fn f cs,u,h=>by
  simp only[Rep,D.ren] at h ⊢
  obtain⟨vs,rfl,h⟩:=h
  exact⟨vs,rfl,yC ho cs vs h⟩
 | .yld,u,h=>by
  simp only[Rep,D.ren] at h ⊢
  obtain⟨ad,h1,h2⟩:=h
  exact⟨ad,by simp[kZ,h1],h2⟩
 | .undef,u,h=>by simpa [D.ren,Rep] using h
 | .v x,u,h=>by simpa [D.ren,Rep] using h
 | .emp,u,h=>by simpa [D.ren,Rep] using h
 | .sh _ _,u,h=>by simpa [D.ren,Rep] using h
 | .ow _ _ _,u,h=>by simpa [D.ren,Rep] using h
 | .shp _ _,u,h=>by simpa [D.ren,Rep] using h
 | .rc _,u,h=>by simpa [D.ren,Rep] using h
 | .oc _,u,h=>by simpa [D.ren,Rep] using h
theorem yC {w:World} {A:Nat→Prop} {β:Env} {l:List (Nat×Nat)} (ho:mY l=true):∀ (ds:List D) (vs:List Value),aF w A β ds vs→aF w A (kZ β l) (D.vz l ds) vs
 |[],vs,h=>by simpa [D.vz,aF] using h
 |d::ds,vs,h=>by
  simp only[D.vz,aF] at h ⊢
  obtain⟨x,xs,rfl,h1,h2⟩:=h
  exact⟨x,xs,rfl,Js ho d x h1,yC ho ds xs h2⟩
end
theorem Ti {w:World} {A:Nat→Prop} {β:Env} {l:List (Nat×Nat)} (ho:mY l=true):∀ (ds:List D) (ad:Addr),aZ w A β ds ad→aZ w A (kZ β l) (D.vz l ds) ad
 |[],_,_=>trivial
 |d::ds,ad,⟨⟨u,h1,h2⟩,h3⟩=>⟨⟨u,h1,Js ho d u h2⟩,Ti ho ds _ h3⟩
theorem OC (l:List (Nat×Nat)):∀ ds:List D,D.vz l ds=ds.map (D.ren l)
 |[]=>rfl
 |d::ds=>by simp[D.vz,OC l ds]
theorem Zd (l:List (Nat×Nat)) (cols:List aH):D.vz l (aA cols)=aA cols:=by
 rw[OC]
 refine(List.map_congr_left fun d hd=>?_).trans (List.map_id _)
 obtain⟨x,rfl⟩:=fA hd
 rfl
theorem BX.UC (l:List (Nat×Nat)) (b:BX):(b.ren l).blk=⟨D.vz l b.blk.cells,b.blk.ro⟩:=by
 cases b with
 |cells cs ro=>rfl
 |row cols ro=>simp only[BX.ren,BX.blk,Zd]
theorem y8 {bk:List (Nat×BX)} {l:List (Nat×Nat)} {j:Nat} {b:BX}:∀ {m:List (Nat×Nat)},bP j (FU bk l m)=some b→∃ i b0,(i,j)∈m∧bP i bk=some b0∧b=b0.ren l
 |[],h=>by simp[FU,bP] at h
 |(i,k)::m,h=>by
  simp only[FU] at h
  split at h
  next b0 hb0=>
   simp only[bP,cond_eq_ite] at h
   split at h
   next e=>
    have:=Nat.eq_of_beq_eq_true e
    subst this
    simp at h;subst h
    exact⟨i,b0,by simp,hb0,rfl⟩
   next=>
    obtain⟨i',b',h1,h2,h3⟩:=y8 h
    exact⟨i',b',by simp[h1],h2,h3⟩
  next=>
   obtain⟨i',b',h1,h2,h3⟩:=y8 h
   exact⟨i',b',by simp[h1],h2,h3⟩
theorem zG {w:World} {A:Nat→Prop} {β:Env} {l:List (Nat×Nat)} (ho:mY l=true) {f:TT×Nat} {ks:List Nat} {a:Array Value} (h:jE w A β (iY f) a):jE w A (kZ β l) (iY (Tq l f ks)) a:=by
 refine⟨h.nt,fun t=>?_⟩
 show Rep w A (kZ β l) (((IX f.1 ks).map (D.ren l)).get (path t)) _
 rw[TT.get_map rfl,Ir]
 split
 ·exact Js ho _ _ (h.tm t)
 ·simp[D.ren,Rep,aC]
theorem yH {w:World} {A:Nat→Prop} {β:Env} {l:List (Nat×Nat)} (ho:mY l=true):∀ (fs:List (TT×Nat)) (ks:List (List Nat)) (as:List (Array Value)),gU w A β (fs.map iY) as→gU w A (kZ β l) ((EW l fs ks).map iY) as
 |[],_,as,h=>by cases h;simp only[EW];exact .nil
 |f::fs,[],as,h=>by
  cases h with
  |cons h1 h2=>simp only[EW,List.map_cons];exact .cons (zG ho h1) (yH ho fs [] _ h2)
 |f::fs,k::ks,as,h=>by
  cases h with
  |cons h1 h2=>simp only[EW,List.map_cons];exact .cons (zG ho h1) (yH ho fs ks _ h2)
theorem zT (c:Cs) (keep:List (List Nat)) {l:List (Nat×Nat)} (ho:mY l=true):dL c.abs (c.norm keep l).abs:=by
 intro w A β base tmps acts h
 have inv:∀ j b,(c.norm keep l).abs.bk j=some b→∃ i b0,(i,j)∈l∧c.abs.bk i=some b0∧b=⟨D.vz l b0.cells,b0.ro⟩:=by
  intro j b hb
  have hb:bZ j (FU c.bk l l)=some b:=hb
  unfold bZ at hb
  rw[Option.map_eq_some_iff] at hb
  obtain⟨b1,hb1,rfl⟩:=hb
  obtain⟨i,b0,h1,h2,rfl⟩:=y8 hb1
  exact⟨i,b0.blk,h1,by show bZ i c.bk=_;unfold bZ;rw[h2];rfl,BX.UC l b0⟩
 have henv:∀ i j,(i,j)∈l→kZ β l j=β i:=fun i j hm=>tC ho ((lH ho).1 i j hm).1
 refine⟨kZ β l,⟨zG ho h.fr,yH ho _ _ _ h.stk,?_,?_,h.low,h.top,h.glo,?_⟩⟩
 ·intro j b hb
  obtain⟨i,b0,hm,h1,rfl⟩:=inv j b hb
  rw[henv i j hm]
  rcases h.blk i b0 h1 with⟨k1,k2⟩ | ⟨ad,k1,k2⟩
  ·exact .inl ⟨k1,by simp[k2,D.vz]⟩
  ·exact .inr ⟨ad,k1,⟨k2.spot,k2.base,k2.obj,Ti ho _ _ k2.cells,k2.own,k2.shared,k2.inside⟩⟩
 ·intro j1 j2 a b h1 h2 ha hb hab
  obtain⟨b1,hb1⟩:=Option.ne_none_iff_exists'.1 h1
  obtain⟨b2,hb2⟩:=Option.ne_none_iff_exists'.1 h2
  obtain⟨i1,c1,m1,k1,_⟩:=inv j1 b1 hb1
  obtain⟨i2,c2,m2,k2,_⟩:=inv j2 b2 hb2
  rw[henv i1 j1 m1] at ha
  rw[henv i2 j2 m2] at hb
  have:=h.inj i1 i2 a b (by simp[k1]) (by simp[k2]) ha hb hab
  subst this
  have e1:=((lH ho).1 _ _ m1).1
  have e2:=((lH ho).1 _ _ m2).1
  rw[e1] at e2
  exact Option.some.inj e2
 ·exact h.lp.mono (w:=w) (w':=w) (A:=A) (.refl _) (.refl _ _) (fun _=>by simp[kZ])
end
end Go.Dam
end

section
namespace Go.Dam
open Go Go.RowKit
variable [gB]
noncomputable section
def TB (d:D):Prop:=False
def acR (x:Code) (c:Cs):Prop:=False
def rD (o:Oper) (c:Cs):Prop:=False
def rG (o:Oper) (f:FuncId) (as:List D) (c:Cs):Prop:=False
def XF (R:Array Oper) (c:Cs):Prop:=False
def dQ (why:Nat) (c:Cs):Prop:=False
def Within (f:FuncId):Prop:=False
def ad9 (R:Array Oper) (o:Oper) (c:Cf):D:=
 match o.guard with
 |none=> .undef
 |some (j,_)=>match (R[j]?).bind (·.dst) with
  |none=> .undef
  |some t=>c.get t
def afX:Nat:=1000000007
def fP (c:Cf) (p:Prop):Option (Ex×Cf):=some (.exit afX,{ c with cds:=p::c.cds })
def Ex.done:Ex→Bool
 | .normal | .ret=>true
 | .exit _=>false
abbrev jJ:=Job→Cf→Option (Ex×Cf)
def TK (P:Program) (ih:jJ) (R:Array Oper) (l:List Oper) (o:Oper) (f:FuncId) (fn:Func) (e:Ex) (c1:Cf):Option (Ex×Cf):=
 match e.done,resD P c1.abs fn.results.toList,c1.stk with
 |true,some ds,f0::stk=>bif Ew c1.loop stk.length then ih (.ops R l) (Cf.put { tm:=f0.1,nt:=f0.2,stk:=stk,bk:=c1.bk,loop:=c1.loop,gen:=c1.gen,todo:=c1.todo,cds:=c1.cds } o.dst (rF ds)) else fP c1 (dQ 1 c1.toCs)
 |_,_,_=>fP c1 (Within f)
def agf (g:IntKind→List Int→Value→Value→Option (List Int×List Prop)) (c:Cf) (dst:Option Tmp) (id:Nat):List D→Option Cf
 |[.sl i off n sz, .v a, .sl j offj m szj]=>bif Nat.beq off 0 && (Nat.beq offj 0 && (Nat.beq m 1 && (Nat.beq sz.s 1 && !(Nat.beq i j)))) then match bP i c.bk,bP j c.bk with
   |some (.row [.ints k xs] false),some (.cells [.v x] false)=>match g k xs a x with
    |some (ys,l)=>some ((((((c.rY i).forget id).setB id (.row [.ints k ys] false)).put dst (.sl id 0 ys.length ⟨1,0⟩))).Gl ((n=xs.length)::l))
    |none=>none
   |_,_=>none
  else none
 |_=>none
def Zg (X:aB) (f:FuncId):Option (IntKind→List Int→Value→Value→Option (List Int×List Prop)):=
 match X f with
 |some (.own g)=>some g
 |_=>none
theorem QX {X:aB} {f:FuncId} {g:IntKind→List Int→Value→Value→Option (List Int×List Prop)} (h:Zg X f=some g):X f=some (.own g):=by
 unfold Zg at h
 split at h
 next g' hg=>simp only[Option.some.injEq] at h;subst h;exact hg
 ·cases h
theorem uX (k:IntKind) (xs:List Int):aA [.ints k xs]=(xs.map (Value.int k)).map D.v:=by
 apply List.ext_getElem?
 intro m
 rw[jI]
 simp only[ah,aH.len,List.length_singleton,Nat.mul_one,Nat.div_one,Nat.mod_one,List.getElem?_cons_zero,Option.map_some,aH.val,List.getElem?_map]
 split
 next h=>rw[List.getElem?_eq_getElem h];simp[List.getD_eq_getElem?_getD,List.getElem?_eq_getElem h]
 next h=>rw[List.getElem?_eq_none (by omega)];rfl
theorem UB {P:Program} {f:FuncId} {g:IntKind→List Int→Value→Value→Option (List Int×List Prop)} (hg:∀ k xs a x ys l,g k xs a x=some (ys,l)→aI l→NV P f (xs.map (.int k)) a x (ys.map (.int k)))
  {c c':Cf} {o:Oper} {id:Nat} {fo:Operand} {args:Array Operand} (hp:callParts o.op=some (fo,args)) (hf:bn c.abs fo= .fn f []) (hb:(jq P f).isSome=true)
  (h:agf g c o.dst id (args.toList.map (eG c.toCs))=some c') (hl:aI c'.cds):aI c.cds∧ku P (CallsD P) o c.abs c'.abs:=by
 generalize hargs:args.toList.map (eG c.toCs)=ds at h
 unfold agf at h
 split at h
 next i off n sz a j offj m szj=>
  simp only[cond_eq_ite] at h
  split at h
  next hc=>
   simp only[Bool.and_eq_true,Bool.not_eq_true'] at hc
   obtain⟨c1,c2,c3,c4,c5⟩:=hc
   obtain rfl:=Nat.eq_of_beq_eq_true c1
   obtain rfl:=Nat.eq_of_beq_eq_true c2
   obtain rfl:=Nat.eq_of_beq_eq_true c3
   have hs:=Nat.eq_of_beq_eq_true c4
   have hij:i≠j:=fun e=>by rw[e,Nat.beq_refl] at c5;cases c5
   split at h
   next k xs x h1 h2=>
    split at h
    next ys l h3=>
     simp only[Option.some.injEq] at h;subst h
     have hl':aI (((n=xs.length)::l) ++ c.cds):=by simpa [eX,dZ,jh,Cf.rY] using hl
     rw[aW] at hl'
     obtain⟨⟨hn,hl1⟩,hl2⟩:=hl'
     subst hn
     refine⟨hl2,?_⟩
     have e:(((((c.rY i).forget id).setB id (.row [.ints k ys] false)).put o.dst (.sl id 0 ys.length ⟨1,0⟩)).Gl ((xs.length=xs.length)::l)).abs=(gY (c.abs.dO i) id [(ys.map (Value.int k)).map D.v]).put o.dst (.sl id 0 (ys.map (Value.int k)).length ⟨1,0⟩):=by
      rw[iO,bJ,bD,bW,Nq]
      simp only[gY,BX.blk,uX,List.length_map]
     rw[e]
     refine .own (i:=i) (j:=j) (xs:=xs.map (.int k)) (at':=a) (x:=x) (sz:=sz) (szj:=szj) hp hf hb ?_ hij ?_ ?_ hs (hg k xs a x ys l h3 hl1)
     ·rw[←dw,hargs,List.length_map]
     ·show bZ i c.bk=_
      unfold bZ;rw[h1];simp only[Option.map_some,BX.blk,uX]
     ·show bZ j c.bk=_
      unfold bZ;rw[h2];rfl
    ·cases h
   ·cases h
  ·cases h
 ·cases h
def Xn (P:Program) (X:aB) (ih:jJ) (dep:Nat) (R:Array Oper) (l:List Oper) (o:Oper) (c:Cf) (f:FuncId) (caps as:List D):Option (Ex×Cf):=
 match jq P f with
 |none=>match caps,D.qX as with
  |[],some vs=>match abB P X f vs with
   |some (u,ps)=>ih (.ops R l) ((c.put o.dst (D.l7 u)).Gl ps)
   |none=>fP c (rG o f as c.toCs)
  |_,_=>fP c (rG o f as c.toCs)
 |some (fn,body)=>match callOf X f with
  |some g=>match YP g c o.dst (site dep o.dst) (as ++ caps) with
   |some c'=>ih (.ops R l) c'
   |none=>fP c (rG o f (as ++ caps) c.toCs)
  |none=>match Zg X f with
  |some g=>match caps,agf g c o.dst (site dep o.dst) as with
   |[],some c'=>ih (.ops R l) c'
   |_,_=>fP c (rG o f (as ++ caps) c.toCs)
  |none=>match ih (.code body) (c.enter (as ++ caps) fn.ntmps) with
   |some (e,c1)=>TK P ih R l o f fn e c1
   |none=>none
def SB (ih:jJ) (o:Oper) (c:Cf) (args:List Operand) (L:jK) (f0:TT×Nat) (m:Nat):Option Cf:=
 bif L.state.ready? && (Nat.beq (m+2) L.depth && (Nat.beq args.length L.ps.size && (fO L.assign && fO L.body))) then
  match ih (.code L.assign) (c.round f0 (L.ps.toList.zip (args.map (eG c.toCs)))) with
  |some (.normal,c1)=>match c1.loop with
   |some L1=>bif L1.state.ready? && Nat.beq L1.depth L.depth then
     match ih (.code L.body) { c1 with loop:=some { L1 with state:= .busy } } with
     |some (e,c2)=>match c2.loop,c2.stk with
      |some L2,fI::stk'=>bif L2.state.OI && Nat.beq L2.depth L.depth then some (Cf.put { tm:=fI.1,nt:=fI.2,stk:=stk',bk:=c2.bk,loop:=some { L2 with state:=e.round },gen:=c2.gen,todo:=c2.todo,cds:=c2.cds } o.dst (.v (.bool e.goes))) else none
      |_,_=>none
     |none=>none
    else none
   |none=>none
  |_=>none
 else none
def PN (ih:jJ) (o:Oper) (c:Cf) (args:List Operand):Option Cf:=
 match c.loop,c.stk with
 |some L,f0::_::stk=>SB ih o c args L f0 stk.length
 |_,_=>none
def KG (P:Program) (ih:jJ) (c:Cf) (g:Operand) (ps:Array Tmp) (assign body:Code):Option (Ex×Cf):=
 match c.loop with
 |some _=>fP c (dQ 2 c.toCs)
 |none=>match eG (c.forget dI).toCs g with
  | .fn f caps=>match jq P f with
   |some (fn,b)=>match fn.results.toList with
    |[]=>match ih (.code b) (c.ranged ps assign body caps fn.ntmps) with
     |some (e1,c1)=>bif e1.done then match c1.loop,c1.stk with
      |some L1,fr::_::stk=>bif Nat.beq L1.depth (c.stk.length+2) then match L1.state.leaves with
        |some e=>some (e,{ tm:=fr.1,nt:=fr.2,stk:=stk,bk:=c1.bk,loop:=none,gen:=c1.gen,todo:=c1.todo,cds:=c1.cds })
        |none=>fP c1 (dQ 3 c1.toCs)
       else fP c1 (dQ 4 c1.toCs)
      |_,_=>fP c1 (dQ 5 c1.toCs)
      else fP c1 (Within f)
     |none=>none
    |_=>fP c (dQ 6 c.toCs)
   |none=>fP c (dQ 7 c.toCs)
  |_=>fP c (dQ 8 c.toCs)
def TN (P:Program) (X:aB) (ih:jJ) (R:Array Oper) (l:List Oper) (o:Oper) (c:Cf) (p:Operand×Array Operand):Option (Ex×Cf):=
 match eG c.toCs p.1 with
 | .fn f caps=>Xn P X ih (zY c) R l o c f caps (p.2.toList.map (eG c.toCs))
 | .yld=>match PN ih o c p.2.toList with
  |some c'=>ih (.ops R l) c'
  |none=>fP c (rD o c.toCs)
 |_=>fP c (rD o c.toCs)
def NI (P:Program) (ih:jJ) (R:Array Oper) (l:List Oper) (o:Oper) (c:Cf):Option (Ex×Cf):=
 match Fp P c o.dst (site (zY c) o.dst) o.op with
 |some (c',ps)=>ih (.ops R l) (c'.Gl ps)
 |none=>match opY P c.bk (eG c.toCs) o.type o.op with
  |none=>fP c (rD o c.toCs)
  |some (e,ps)=>match lq c o.dst (site (zY c) o.dst) e with
   |none=>fP c (rD o c.toCs)
   |some c'=>ih (.ops R l) (c'.Gl ps)
def IZ (P:Program) (X:aB) (ih:jJ) (R:Array Oper) (l:List Oper) (o:Oper) (c:Cf):Option (Ex×Cf):=
 match callParts o.op with
 |none=>NI P ih R l o c
 |some p=>TN P X ih R l o c p
def ad1 (P:Program) (X:aB) (ih:jJ) (R:Array Oper) (l:List Oper) (c:Cf):Option (Ex×Cf):=
 match l with
 |[]=>some (.normal,c)
 |o::l=>match Cm R o c with
  |none=>fP c (TB (ad9 R o c))
  |some (false,c1)=>ih (.ops R l) (c1.put o.dst (.v undef))
  |some (true,c1)=>IZ P X ih R l o c1
def TF (ih:jJ) (b:Code) (c:Cf):Option (Ex×Cf):=
 match ih (.code b) c with
 |none=>none
 |some (.normal,c')=>ih (.rounds b) c'
 |some (e,c')=>some (e,c')
def YS (P:Program) (X:aB) (ih:jJ) (R:Array Oper) (c:Cf):Option (Ex×Cf):=
 bif P.follows .mixedOrders && Zv P R then
  match xI P X (fun l c'=>ih (.ops R l) c') R (zY c) (YQ P R (fun l c'=>ih (.ops R l) c') (nY (lZ R (zY c)) c)) 0 R.toList (nY (lZ R (zY c)) c) with
  |none=>fP c (XF R c.toCs)
  |some c'=>some (.normal,c')
 else fP c (dQ 9 c.toCs)
def regionF (P:Program) (X:aB) (ih:jJ) (R:Array Oper) (d:Bool) (c:Cf):Option (Ex×Cf):=
 match d with
 |false=>ih (.ops R R.toList) c
 |true=>YS P X ih R c
def Tt (P:Program) (X:aB) (ih:jJ) (R:Array Oper) (d:Bool) (c:Cf):Option (Ex×Cf):=
 match c.todo with
 | .q ks::p=>match tN ks { c with todo:=p } with
  |some c'=>regionF P X ih R d c'
  |none=>fP c (dQ 14 c.toCs)
 |_=>regionF P X ih R d c
def agA (ih:jJ) (x y:Code) (c:Cf):Option (Ex×Cf):=
 match ih (.code x) c with
 |none=>none
 |some (.normal,c')=>ih (.code y) c'
 |some (e,c')=>some (e,c')
def ac9 (ih:jJ) (t:Operand) (x y:Code) (c:Cf):Option (Ex×Cf):=
 match t with
 | .tmp k=>match c.get k with
  | .v (.bool b)=>match CW c k b with
   |some (v,c')=>bif v then ih (.code x) c' else ih (.code y) c'
   |none=>fP c (TB (c.get k))
  |_=>fP c (dQ 10 c.toCs)
 | .const (.bool b)=>bif b then ih (.code x) c else ih (.code y) c
 |_=>fP c (dQ 12 c.toCs)
def Xp (ih:jJ) (id:Nat) (x:Code) (c:Cf):Option (Ex×Cf):=
 match ih (.code x) c with
 |none=>none
 |some (.exit i,c')=>bif Nat.beq i id then some (.normal,c') else some (.exit i,c')
 |some (e,c')=>some (e,c')
def acB (P:Program) (ih:jJ) (x:Code) (c:Cf):Option (Ex×Cf):=
 match c.todo with
 | .u::p=>ih (.rounds x) { c with todo:=p }
 | .k ks::p=>match tN ks { c with todo:=p } with
  |some c'=>ih (.code (.loop x)) c'
  |none=>fP c (dQ 13 c.toCs)
 | .l keep ren c0 e c1::p=>bif mY ren then some (e,{ c1 with todo:=p,cds:=(c.toCs.norm keep ren=c0)::Runs P (CallsD P) (.code (.loop x)) c0.abs e c1.abs::c.cds }) else fP c (dQ 11 c.toCs)
 |_=>fP c (acR x c.toCs)
def codeF (P:Program) (X:aB) (ih:jJ) (c:Cf):Code→Option (Ex×Cf)
 | .region _ R d=>Tt P X ih R d c
 | .skip=>some (.normal,c)
 | .ret=>some (.ret,c)
 | .exit id=>some (.exit id,c)
 | .seq x y=>agA ih x y c
 | .cond t x y=>ac9 ih t x y c
 | .block id x=>Xp ih id x c
 | .loop x=>acB P ih x c
 | .rangeFunc g ps assign body=>KG P ih c g ps assign body
 |_=>none
def Ur (P:Program) (X:aB) (ih:jJ) (j:Job) (c:Cf):Option (Ex×Cf):=
 match j with
 | .ops R l=>ad1 P X ih R l c
 | .rounds b=>TF ih b c
 | .code x=>codeF P X ih c x
 | .draws _ _ _ _=>none
def evX (P:Program) (X:aB) (n:Nat):jJ:=Nat.rec (motive:=fun _=>jJ) (fun _ _=>none) (fun _ ih=>Ur P X ih) n
theorem Zi (P:Program) (X:aB) (n:Nat):evX P X (n+1)=Ur P X (evX P X n):=rfl
def Right (P:Program) (E:jJ):Prop:=∀ j c e c',E j c=some (e,c')→aI c'.cds→aI c.cds∧Runs P (CallsD P) j c.abs e c'.abs∧(∀ R l,j= .ops R l→e= .normal)
section
variable {P:Program} {X:aB} (hX:bG P X)
theorem bK {c:Cf} {p:Prop} {e:Ex} {c':Cf} (hp:¬ p) (h:fP c p=some (e,c')) (hl:aI c'.cds):False:=by
 simp only[fP,Option.some.injEq,Prod.mk.injEq] at h
 obtain⟨_,rfl⟩:=h
 exact hp hl.1
theorem Right.ops {E:jJ} (ih:Right P E) {R:Array Oper} {l:List Oper} {c:Cf} {e:Ex} {c':Cf} (h:E (.ops R l) c=some (e,c')) (hl:aI c'.cds):aI c.cds∧e= .normal∧Runs P (CallsD P) (.ops R l) c.abs .normal c'.abs:=by
 obtain⟨h1,h2,h3⟩:=ih _ _ _ _ h hl
 have:=h3 R l rfl
 subst this
 exact⟨h1,rfl,h2⟩
theorem Ju {E:jJ} (ih:Right P E) {R:Array Oper} {o:Oper} {l:List Oper} {c c1 c':Cf} {fo:Operand} {args:Array Operand} {e:Ex}
  (hp:callParts o.op=some (fo,args)) (hf:bn c.abs fo= .yld) (hy:PN E o c args.toList=some c1) (h:E (.ops R l) c1=some (e,c')) (hl:aI c'.cds):
  aI c.cds∧e= .normal∧(bf R o c.abs=some true→Runs P (CallsD P) (.ops R (o::l)) c.abs .normal c'.abs):=by
 obtain⟨k1,rfl,hr⟩:=ih.ops h hl
 unfold PN at hy
 split at hy
 next L f0 gh stk hL hstk=>
  unfold SB at hy
  simp only[cond_eq_ite] at hy
  split at hy
  next hc=>
   simp only[Bool.and_eq_true] at hc
   obtain⟨h1,h2,h3,h4,h5⟩:=hc
   split at hy
   next ca ha=>
    split at hy
    next L1 hL1=>
     split at hy
     next hc1=>
      simp only[Bool.and_eq_true] at hc1
      split at hy
      next e2 c2 hb=>
       split at hy
       next L2 fI stk' hL2 hstk2=>
        split at hy
        next hc2=>
         simp only[Bool.and_eq_true] at hc2
         simp only[Option.some.injEq] at hy;subst hy
         rw[dZ] at k1
         obtain⟨j1,rb,_⟩:=ih _ _ _ _ hb k1
         obtain⟨j2,ra,_⟩:=ih _ _ _ _ ha j1
         rw[UO,dw] at ra
         rw[bJ] at hr
         refine⟨j2,rfl,fun hw=>?_⟩
         exact .yield (L:=L) (L1:=L1) (L2:=L2) (fr0:=iY f0) (gh:=iY gh) (frI:=iY fI) (stk:=stk.map iY) (stk':=stk'.map iY) hw hp hf hL h1 (by simp[Cf.abs,Cs.abs,hstk]) (by have:=Nat.eq_of_beq_eq_true h2;simpa using this)
          (by have:=Nat.eq_of_beq_eq_true h3;simpa using this) h4 h5 ra hL1 hc1.1 (Nat.eq_of_beq_eq_true hc1.2) rb hL2 hc2.1 (Nat.eq_of_beq_eq_true hc2.2) (by simp[Cf.abs,Cs.abs,hstk2]) hr
        ·cases hy
       ·cases hy
      ·cases hy
     ·cases hy
    ·cases hy
   ·cases hy
  ·cases hy
 ·cases hy
theorem Gq {E:jJ} (ih:Right P E) {c c':Cf} {g:Operand} {ps:Array Tmp} {assign body:Code} {e:Ex}
  (h:KG P E c g ps assign body=some (e,c')) (hl:aI c'.cds):aI c.cds∧Runs P (CallsD P) (.code (.rangeFunc g ps assign body)) c.abs e c'.abs:=by
 unfold KG at h
 split at h
 ·exact(bK (by simp[dQ]) h hl).elim
 next hlp=>
  split at h
  next f caps hg=>
   split at h
   next fn b hb=>
    split at h
    next hres=>
     split at h
     next e1 c1 h1=>
      simp only[cond_eq_ite] at h
      split at h
      next hdone=>
       split at h
       next L1 fr gh stk hL1 hstk=>
        split at h
        next hdep=>
         split at h
         next e' hlv=>
          simp only[Option.some.injEq,Prod.mk.injEq] at h
          obtain⟨rfl,rfl⟩:=h
          obtain⟨j1,r1,_⟩:=ih _ _ _ _ h1 hl
          rw[QY] at r1
          refine⟨j1,?_⟩
          exact .ranged (L1:=L1) (fr:=iY fr) (gh:=iY gh) (stk:=stk.map iY) hlp (by rw[←bW,←dw];exact hg) hb r1 (by cases e1<;>simp[Ex.done] at hdone<;>simp) hres hL1 hlv
           (by have:=Nat.eq_of_beq_eq_true hdep;simpa [Cf.abs,Cs.abs] using this) (by simp[Cf.abs,Cs.abs,hstk])
         ·exact(bK (by simp[dQ]) h hl).elim
        ·exact(bK (by simp[dQ]) h hl).elim
       ·exact(bK (by simp[dQ]) h hl).elim
      ·exact(bK (by simp[Within]) h hl).elim
     ·cases h
    ·exact(bK (by simp[dQ]) h hl).elim
   ·exact(bK (by simp[dQ]) h hl).elim
  ·exact(bK (by simp[dQ]) h hl).elim
include hX in
theorem OJ {E:jJ} (ih:Right P E) {dep:Nat} {R:Array Oper} {l:List Oper} {o:Oper} {c:Cf} {f:FuncId} {caps:List D} {fo:Operand} {args:Array Operand} (hp:callParts o.op=some (fo,args))
    (hf:bn c.abs fo= .fn f caps) {e:Ex} {c':Cf} (h:Xn P X E dep R l o c f caps (args.toList.map (eG c.toCs))=some (e,c')) (hl:aI c'.cds):
    aI c.cds∧e= .normal∧(bf R o c.abs=some true→Runs P (CallsD P) (.ops R (o::l)) c.abs .normal c'.abs):=by
  unfold Xn at h
  split at h
  next hbody=>
    split at h
    next vs hpl=>
      split at h
      next u ps hrun=>
        obtain⟨k1,rfl,k2⟩:=ih.ops h hl
        rw[eX,dZ,aW] at k1
        rw[iO,bJ] at k2
        exact⟨k1.2,rfl,fun hw=> .step hw (.ext hp hf (by rw[←dw];exact hpl) (G9 hX hrun k1.1)) k2⟩
      · exact(bK (by simp[rG]) h hl).elim
    · exact(bK (by simp[rG]) h hl).elim
  next fn body hbody=>
    split at h
    next g hg=>
      split at h
      next c1 hc=>
        obtain⟨k1,rfl,k2⟩:=ih.ops h hl
        obtain⟨j1,j2⟩:=QD (fun args res l h hl=>hX.call f g (AB hg) args res l h hl) hc k1
        exact⟨j1,rfl,fun hw=> .step hw (.call hp hf (by rw[hbody];rfl) (by rw[←dw];exact j2)) k2⟩
      · exact(bK (by simp[rG]) h hl).elim
    next=>
     split at h
     next g hg=>
      split at h
      next c1 hc=>
        obtain⟨k1,rfl,k2⟩:=ih.ops h hl
        obtain⟨j1,j2⟩:=UB (fun k xs a x ys l h hl=>hX.own f g (QX hg) k xs a x ys l h hl) hp hf (by rw[hbody];rfl) hc k1
        exact⟨j1,rfl,fun hw=> .step hw j2 k2⟩
      · exact(bK (by simp[rG]) h hl).elim
     next=>
      split at h
      next e1 c1 hev=>
        unfold TK at h
        split at h
        next ds f0 stk hdone hres hstk=>
          simp only[cond_eq_ite] at h
          split at h
          next hfit=>
            obtain⟨k1,rfl,k2⟩:=ih.ops h hl
            rw[dZ] at k1
            obtain⟨j1,j2,_⟩:=ih _ _ _ _ hev k1
            rw[Vl] at j2
            rw[bJ] at k2
            refine⟨j1,rfl,fun hw=> .inline (fr:=iY f0) (stk:=stk.map iY) hw hp hf hbody (by rw[←dw];exact j2) ?_ hres (by simp[Cf.abs,Cs.abs,hstk]) (by simpa [Cf.abs,Cs.abs] using hfit) k2⟩
            cases e1<;>simp[Ex.done] at hdone<;>simp
          · exact(bK (by simp[dQ]) h hl).elim
        · exact(bK (by simp[Within]) h hl).elim
      · cases h
include hX in
theorem Qg {E:jJ} (ih:Right P E) {R:Array Oper} {l:List Oper} {c c':Cf} {e:Ex} (h:ad1 P X E R l c=some (e,c')) (hl:aI c'.cds):aI c.cds∧e= .normal∧Runs P (CallsD P) (.ops R l) c.abs .normal c'.abs:=by
 unfold ad1 at h
 split at h
 next=>simp only[Option.some.injEq,Prod.mk.injEq] at h;obtain⟨rfl,rfl⟩:=h;exact⟨hl,rfl, .nil⟩
 next o l=>
  split at h
  ·exact(bK (by simp[TB]) h hl).elim
  next c1 hw=>
   obtain⟨k1,rfl,k2⟩:=ih.ops h hl
   rw[dZ] at k1
   obtain⟨j1,j2,j3⟩:=lD hw k1
   rw[bJ,j2] at k2
   exact⟨j1,rfl, .skipped j3 k2⟩
  next c1 hw=>
   have step:aI c1.cds∧e= .normal∧(bf R o c1.abs=some true→Runs P (CallsD P) (.ops R (o::l)) c1.abs .normal c'.abs):=by
    unfold IZ at h
    split at h
    next hcp=>
     unfold NI at h
     split at h
     next c2 ps hrow=>
      obtain⟨k1,rfl,k2⟩:=ih.ops h hl
      rw[eX,aW] at k1
      obtain⟨eff,σ1,q1,q2,q3,q4⟩:=GH (ty:=o.type) hrow k1.1
      exact⟨q4▸k1.2,rfl,fun hw'=> .step hw' (.op q1 q2) (.weak rfl q3 k2)⟩
     next=>
      split at h
      ·exact(bK (by simp[rD]) h hl).elim
      next eff ps hop=>
       split at h
       ·exact(bK (by simp[rD]) h hl).elim
       next c2 hst=>
        obtain⟨k1,rfl,k2⟩:=ih.ops h hl
        rw[eX,aW] at k1
        obtain⟨s1,s2⟩:=Ud hst
        have hopd:=Ny hop k1.1
        rw[dw] at hopd
        exact⟨s2▸k1.2,rfl,fun hw'=> .step hw' (.op hopd s1) k2⟩
    next p hcp=>
     obtain⟨fo,args⟩:=p
     unfold TN at h
     split at h
     next f caps hfo=>exact OJ hX ih hcp (by rw[←dw];exact hfo) h hl
     next hfo=>
      split at h
      next c2 hy=>exact Ju ih hcp (by rw[←dw];exact hfo) hy h hl
      ·exact(bK (by simp[rD]) h hl).elim
     ·exact(bK (by simp[rD]) h hl).elim
   obtain⟨j1,j2,j3⟩:=lD hw step.1
   rw[j2] at step
   exact⟨j1,step.2.1,step.2.2 j3⟩
include hX in
theorem uO {E:jJ} (ih:Right P E) {id:Nat} {R:Array Oper} {d:Bool} {c c':Cf} {e:Ex} (h:regionF P X E R d c=some (e,c')) (hl:aI c'.cds):aI c.cds∧Runs P (CallsD P) (.code (.region id R d)) c.abs e c'.abs:=by
 cases d with
 |false=>
  simp only[regionF] at h
  obtain⟨k1,rfl,k2⟩:=ih.ops h hl
  exact⟨k1, .region k2⟩
 |true=>
  simp only[regionF] at h
  unfold YS at h
  simp only[cond_eq_ite] at h
  split at h
  next hb=>
   simp only[Bool.and_eq_true] at hb
   split at h
   ·exact(bK (by simp[XF]) h hl).elim
   next c1 hd=>
    simp only[Option.some.injEq,Prod.mk.injEq] at h
    obtain⟨rfl,rfl⟩:=h
    have hE:∀ l c0 c0',(fun l c'=>E (.ops R l) c') l c0=some (.normal,c0')→aI c0'.cds→aI c0.cds∧Runs P (CallsD P) (.ops R l) c0.abs .normal c0'.abs:=fun l c0 c0' he hl'=>by
     obtain⟨k1,_,k2⟩:=ih.ops he hl'
     exact⟨k1,k2⟩
    obtain⟨k1,k2⟩:=wR hX hE (TS (zY c) (YQ P R (fun l c'=>E (.ops R l) c') (nY (lZ R (zY c)) c)) hb.2) R.toList 0 _ _ (fun j=>by simp) hd hl
    rw[IJ] at k1
    exact⟨k1,Me rfl (.drawn hb.1 (TS _ _ hb.2) (uZ c) (k2 fun m _=>uZ c m))⟩
  ·exact(bK (by simp[dQ]) h hl).elim
include hX in
theorem Nl {E:jJ} (ih:Right P E) {x:Code} {c c':Cf} {e:Ex} (h:codeF P X E c x=some (e,c')) (hl:aI c'.cds):aI c.cds∧Runs P (CallsD P) (.code x) c.abs e c'.abs:=by
 cases x with
 |region id R d=>
  simp only[codeF,Tt] at h
  split at h
  next ks p hp=>
   split at h
   next c1 hc1=>
    obtain⟨k1,k2⟩:=uO hX ih (id:=id) h hl
    obtain⟨q1,q2⟩:=qw hc1
    exact⟨q2▸k1, .weak rfl q1 k2⟩
   ·exact(bK (by simp[dQ]) h hl).elim
  ·exact uO hX ih h hl
 |skip=>simp only[codeF,Option.some.injEq,Prod.mk.injEq] at h;obtain⟨rfl,rfl⟩:=h;exact⟨hl, .skip⟩
 |ret=>simp only[codeF,Option.some.injEq,Prod.mk.injEq] at h;obtain⟨rfl,rfl⟩:=h;exact⟨hl, .ret⟩
 |exit id=>simp only[codeF,Option.some.injEq,Prod.mk.injEq] at h;obtain⟨rfl,rfl⟩:=h;exact⟨hl, .exit⟩
 |seq x y=>
  simp only[codeF,agA] at h
  split at h
  ·cases h
  next c1 h1=>
   obtain⟨k1,k2,_⟩:=ih _ _ _ _ h hl
   obtain⟨j1,j2,_⟩:=ih _ _ _ _ h1 k1
   exact⟨j1, .seq j2 k2⟩
  next e1 c1 hne h1=>
   simp only[Option.some.injEq,Prod.mk.injEq] at h
   obtain⟨rfl,rfl⟩:=h
   obtain⟨j1,j2,_⟩:=ih _ _ _ _ h1 hl
   exact⟨j1, .leave j2 (fun he=>hne he)⟩
 |cond t x y=>
  simp only[codeF,ac9] at h
  split at h
  next k=>
   split at h
   next b hb=>
    split at h
    next v c1 hd=>
     have key:∀ z,E (.code z) c1=some (e,c')→z=(if v then x else y)→aI c.cds∧Runs P (CallsD P) (.code (.cond (.tmp k) x y)) c.abs e c'.abs:=by
      intro z hz ez
      obtain⟨k1,k2,_⟩:=ih _ _ _ _ hz hl
      obtain⟨j1,j2,j3⟩:=xE hb hd k1
      rw[j3,ez,←j1] at k2
      exact⟨j2, .cond (b:=b) (by show c.get k=_;exact hb) k2⟩
     cases v with
     |true=>exact key x h rfl
     |false=>exact key y h rfl
    ·exact(bK (by simp[TB]) h hl).elim
   ·exact(bK (by simp[dQ]) h hl).elim
  next b=>
   have key:∀ z,E (.code z) c=some (e,c')→z=(if b then x else y)→aI c.cds∧Runs P (CallsD P) (.code (.cond (.const (.bool b)) x y)) c.abs e c'.abs:=by
    intro z hz ez
    obtain⟨k1,k2,_⟩:=ih _ _ _ _ hz hl
    rw[ez] at k2
    exact⟨k1, .cond (b:=b) rfl k2⟩
   cases b with
   |true=>exact key x h rfl
   |false=>exact key y h rfl
  ·exact(bK (by simp[dQ]) h hl).elim
 |block id x=>
  simp only[codeF,Xp] at h
  split at h
  ·cases h
  next i c1 h1=>
   simp only[cond_eq_ite] at h
   split at h
   next hi=>
    simp only[Option.some.injEq,Prod.mk.injEq] at h
    obtain⟨rfl,rfl⟩:=h
    have hi':i=id:=Nat.eq_of_beq_eq_true hi
    subst hi'
    obtain⟨j1,j2,_⟩:=ih _ _ _ _ h1 hl
    have:=Runs.block (id:=i) j2
    rw[if_pos rfl] at this
    exact⟨j1,this⟩
   next hi=>
    simp only[Option.some.injEq,Prod.mk.injEq] at h
    obtain⟨rfl,rfl⟩:=h
    have hne:¬ (Ex.exit i=Ex.exit id):=fun he=>by
     cases he;rw[fM] at hi;exact hi rfl
    obtain⟨j1,j2,_⟩:=ih _ _ _ _ h1 hl
    have:=Runs.block (id:=id) j2
    rw[if_neg hne] at this
    exact⟨j1,this⟩
  next e1 c1 hne h1=>
   simp only[Option.some.injEq,Prod.mk.injEq] at h
   obtain⟨rfl,rfl⟩:=h
   obtain⟨j1,j2,_⟩:=ih _ _ _ _ h1 hl
   have:=Runs.block (id:=id) j2
   rw[if_neg (fun he=>hne id he)] at this
   exact⟨j1,this⟩
 |loop x=>
  simp only[codeF,acB] at h
  split at h
  next p hp=>
   obtain⟨k1,k2,_⟩:=ih _ _ _ _ h hl
   exact⟨k1, .loop k2⟩
  next ks p hp=>
   split at h
   next c1 hc1=>
    obtain⟨k1,k2,_⟩:=ih _ _ _ _ h hl
    obtain⟨q1,q2⟩:=qw hc1
    exact⟨q2▸k1, .weak rfl q1 k2⟩
   ·exact(bK (by simp[dQ]) h hl).elim
  next keep ren c0 e0 c1 p hp=>
   simp only[cond_eq_ite] at h
   split at h
   next ho=>
    simp only[Option.some.injEq,Prod.mk.injEq] at h
    obtain⟨rfl,rfl⟩:=h
    obtain⟨h1,h2,h3⟩:=hl
    subst h1
    exact⟨h3, .weak rfl (zT c.toCs keep ho) h2⟩
   ·exact(bK (by simp[dQ]) h hl).elim
  ·exact(bK (by simp[acR]) h hl).elim
 |rangeFunc g ps assign body=>simp only[codeF] at h;exact Gq ih h hl
 |_=>simp[codeF] at h
include hX in
theorem yR:∀ n,Right P (evX P X n)
 |0=>fun j c e c' h=>by cases h
 |n+1=>fun j c e c' h hl=>by
  rw[Zi] at h
  have ih:=yR n
  cases j with
  |ops R l=>
   simp only[Ur] at h
   obtain⟨k1,rfl,k2⟩:=Qg hX ih h hl
   exact⟨k1,k2,fun _ _ _=>rfl⟩
  |rounds b=>
   simp only[Ur,TF] at h
   split at h
   ·cases h
   next c1 h1=>
    obtain⟨k1,k2,_⟩:=ih _ _ _ _ h hl
    obtain⟨j1,j2,_⟩:=ih _ _ _ _ h1 k1
    exact⟨j1, .round j2 k2,fun _ _ h=>by cases h⟩
   next e1 c1 hne h1=>
    simp only[Option.some.injEq,Prod.mk.injEq] at h
    obtain⟨rfl,rfl⟩:=h
    obtain⟨j1,j2,_⟩:=ih _ _ _ _ h1 hl
    exact⟨j1, .last j2 (fun he=>hne he),fun _ _ h=>by cases h⟩
  |code x=>
   simp only[Ur] at h
   obtain⟨k1,k2⟩:=Nl hX ih h hl
   exact⟨k1,k2,fun _ _ h=>by cases h⟩
  |draws=>simp[Ur] at h
end
end
end Go.Dam
end

section
namespace Go.Dam
open Go Go.RowKit
variable [gB]
noncomputable section
def mD (e e':D):Prop:=∀ (w:World) (A:Nat→Prop) (u:Value) (bl:List (Option Addr)),dJ w A e u bl→dJ w A e' u bl
theorem mD.refl (e:D):mD e e:=fun _ _ _ _ h=>h
inductive kQ:List D→List D→Prop
 |nil:kQ [] []
 |cons {d e:D} {ds es:List D}:mD d e→kQ ds es→kQ (d::ds) (e::es)
theorem kQ.DN {ds es:List D} (h:kQ ds es) {w:World} {A:Nat→Prop} {vs:List Value} {bl:List (Option Addr)} (hr:iG w A ds vs bl):iG w A es vs bl:=by
 induction h generalizing vs bl with
 |nil=>exact hr
 |cons h1 _ ih=>
  simp only[iG] at hr ⊢
  obtain⟨x,xs,b1,b2,rfl,rfl,k1,k2⟩:=hr
  exact⟨x,xs,b1,b2,rfl,rfl,h1 _ _ _ _ k1,ih k2⟩
theorem kQ.agg {ds es:List D} (h:kQ ds es):mD (.agg ds) (.agg es):=fun w A u bl hr=>by
 simp only[dJ] at hr ⊢
 obtain⟨vs,rfl,hr⟩:=hr
 exact⟨vs,rfl,h.DN hr⟩
theorem kQ.bF {ds es:List D} (h:kQ ds es):mD (.bF ds) (.bF es):=fun w A u bl hr=>by
 simp only[dJ] at hr ⊢
 obtain⟨vs,rfl,hr⟩:=hr
 exact⟨vs,rfl,h.DN hr⟩
theorem gu.ow {ds es:List D} (h:gu ds es) (n sz:Nat):mD (.ow n sz ds) (.ow n sz es):=fun w A u bl hr=>by
 simp only[dJ] at hr ⊢
 obtain⟨o,c,rfl,hr⟩:=hr
 refine⟨o,c,rfl,?_⟩
 rcases hr with⟨h1,h2,h3,h4⟩ | ⟨h1,ad,h2,h3,h4,h5,h6⟩
 ·exact .inl ⟨h1,h2,h.RV.1 h3,h4⟩
 ·exact .inr ⟨h1,ad,h2,h3,h4,h5,h.acp h6⟩
theorem ahR (cols:List aH):mD (.ow (ah cols) cols.length (aA cols)) (.oc cols):=fun w A u bl hr=>by
 simp only[dJ] at hr ⊢
 exact hr
def nV (bk:List (Nat×BX)):D→Option (D×List Nat×List Nat×List Prop)
 | .undef=>some (.undef,[],[],[])
 | .v x=>some (.v x,[],[],[])
 | .sh n cs=>some (.sh n cs,[],[],[])
 | .rc cs=>some (.rc cs,[],[],[])
 | .emp=>some (.emp,[],[],[])
 | .sl id off n sz=>match bP id bk with
  |some (.cells cells false)=>if off+n*sz≤cells.length then
    match fU (dU bk depth) ((cells.drop off).take (n*sz)) with
    |none=>none
    |some (cs,ids,l)=>some (.ow n sz cs,ids,[id],l)
   else none
  |some (.row cols false)=>bif Nat.beq off 0 && Nat.beq sz.s cols.length then some (.oc cols,[],[id],[n=ah cols]) else none
  |_=>none
 | .agg cs=>match finXL cs with
  |none=>none
  |some (ds,i,j,l)=>some (.agg ds,i,j,l)
 | .bF cs=>match finXL cs with
  |none=>none
  |some (ds,i,j,l)=>some (.bF ds,i,j,l)
 |_=>none
where
 finXL:List D→Option (List D×List Nat×List Nat×List Prop)
 |[]=>some ([],[],[],[])
 |d::ds=>match nV bk d,finXL ds with
  |some (e,i,j,l),some (es,is,js,ls)=>some (e::es,i ++ is,j ++ js,l ++ ls)
  |_,_=>none
mutual
theorem Hf {bk:List (Nat×BX)}:∀ (d e:D) (sh own:List Nat) (l:List Prop),nV bk d=some (e,sh,own,l)→aI l→∃ e',fin (fun i=>bZ i bk) d=some (e',sh,own)∧mD e' e
 | .undef,e,sh,own,l,h,hl=>by simp[nV] at h;obtain⟨rfl,rfl,rfl,rfl⟩:=h;exact⟨_,by simp only[fin], .refl _⟩
 | .v x,e,sh,own,l,h,hl=>by simp[nV] at h;obtain⟨rfl,rfl,rfl,rfl⟩:=h;exact⟨_,by simp only[fin], .refl _⟩
 | .sh _ _,e,sh,own,l,h,hl=>by simp[nV] at h;obtain⟨rfl,rfl,rfl,rfl⟩:=h;exact⟨_,by simp only[fin], .refl _⟩
 | .rc _,e,sh,own,l,h,hl=>by simp[nV] at h;obtain⟨rfl,rfl,rfl,rfl⟩:=h;exact⟨_,by simp only[fin], .refl _⟩
 | .emp,e,sh,own,l,h,hl=>by simp[nV] at h;obtain⟨rfl,rfl,rfl,rfl⟩:=h;exact⟨_,by simp only[fin], .refl _⟩
 | .sl id off n sz,e,sh,own,l,h,hl=>by
  simp only[nV] at h
  split at h
  next cells hb=>
   split at h
   next hle=>
    split at h
    ·cases h
    next cs ids l' h1=>
     simp at h;obtain⟨rfl,rfl,rfl,rfl⟩:=h
     obtain⟨es',k1,k2⟩:=fJ (fun d e ids l h hl=>kR depth d e ids l h hl) _ cs ids l' h1 hl
     refine⟨.ow n sz es',?_,k2.ow n sz⟩
     simp only[fin,dY hb]
     rw[if_pos ⟨hle,trivial⟩,k1]
   ·cases h
  next cols hb=>
   simp only[cond_eq_ite] at h
   split at h
   next hc=>
    simp only[Bool.and_eq_true] at hc
    simp only[Option.some.injEq,Prod.mk.injEq] at h;obtain⟨rfl,rfl,rfl,rfl⟩:=h
    obtain rfl:=Nat.eq_of_beq_eq_true hc.1
    have hsz:=Nat.eq_of_beq_eq_true hc.2
    simp only[aI,and_true] at hl
    subst hl
    have hlb:bZ id bk=some ⟨aA cols,false⟩:=by unfold bZ;rw[hb];rfl
    have hlen:=aS cols
    refine⟨.ow (ah cols) sz (aA cols),?_,?_⟩
    ·simp only[fin,hlb]
     rw[if_pos ⟨by rw[hlen,hsz];omega,trivial⟩,List.drop_zero,List.take_of_length_le (by rw[hlen,hsz];exact Nat.le_refl _),wz _ depth _ fun d hd=>fA hd]
    ·rw[hsz];exact ahR cols
   ·cases h
  ·cases h
 | .agg cs,e,sh,own,l,h,hl=>by
  simp only[nV] at h
  split at h
  ·cases h
  next ds i j l' h1=>
   simp at h;obtain⟨rfl,rfl,rfl,rfl⟩:=h
   obtain⟨es,k1,k2⟩:=vN cs ds i j l' h1 hl
   exact⟨.agg es,by simp only[fin,k1],k2.agg⟩
 | .bF cs,e,sh,own,l,h,hl=>by
  simp only[nV] at h
  split at h
  ·cases h
  next ds i j l' h1=>
   simp at h;obtain⟨rfl,rfl,rfl,rfl⟩:=h
   obtain⟨es,k1,k2⟩:=vN cs ds i j l' h1 hl
   exact⟨.bF es,by simp only[fin,k1],k2.bF⟩
 | .ow _ _ _,e,sh,own,l,h,hl=>by simp[nV] at h
 | .oc _,e,sh,own,l,h,hl=>by simp[nV] at h
 | .ptr _ _,e,sh,own,l,h,hl=>by simp[nV] at h
 | .pel _ _ _ _,e,sh,own,l,h,hl=>by simp[nV] at h
 | .shp _ _,e,sh,own,l,h,hl=>by simp[nV] at h
 | .fn _ _,e,sh,own,l,h,hl=>by simp[nV] at h
 | .yld,e,sh,own,l,h,hl=>by simp[nV] at h
theorem vN {bk:List (Nat×BX)}:∀ (ds es:List D) (sh own:List Nat) (l:List Prop),nV.finXL bk ds=some (es,sh,own,l)→aI l→∃ es',fin.finL (fun i=>bZ i bk) ds=some (es',sh,own)∧kQ es' es
 |[],es,sh,own,l,h,hl=>by simp[nV.finXL] at h;obtain⟨rfl,rfl,rfl,rfl⟩:=h;exact⟨[],by simp only[fin.finL], .nil⟩
 |d::ds,es,sh,own,l,h,hl=>by
  simp only[nV.finXL] at h
  split at h
  next e i j l1 es' is js l2 h1 h2=>
   simp at h;obtain⟨rfl,rfl,rfl,rfl⟩:=h
   rw[aW] at hl
   obtain⟨e1,k1,k2⟩:=Hf d e i j l1 h1 hl.1
   obtain⟨e2,k3,k4⟩:=vN ds es' is js l2 h2 hl.2
   exact⟨e1::e2,by simp only[fin.finL,k1,k3], .cons k2 k4⟩
  ·cases h
end
def TL (bk:List (Nat×BX)):D→Option (D×List Prop)
 | .bF cs=>match fU (dU bk depth) cs with
  |none=>none
  |some (ds,ids,l)=>some (.bF ds,l)
 |d=>match dU bk depth d with
  |none=>none
  |some (e,ids,l)=>some (e,l)
def Kw (bk:List (Nat×BX)) (d:D):Option (D×List Prop):=
 match nV bk d with
 |some (e,sh,own,l)=>bif decide own.Nodup && own.all fun i=>!sh.contains i then some (e,l) else TL bk d
 |none=>TL bk d
theorem Qv {P:Program} {f:FuncId} {args:List D} {e e':D} (h:mD e e') (k:CallsD P f args e):CallsD P f args e':=fun w A vs hv low glo=>(k w A vs hv low glo).mono fun r w' ⟨v,A',bl,h1,h2,h3⟩=>⟨v,A',bl,h1,h _ _ _ _ h2,h3⟩
theorem JK {bk:List (Nat×BX)} {d e:D} {l:List Prop} (h:Kw bk d=some (e,l)) (hl:aI l):∃ e',Rn (fun i=>bZ i bk) d e'∧mD e' e:=by
 have viaS:TL bk d=some (e,l)→∃ e',Rn (fun i=>bZ i bk) d e'∧mD e' e:=by
  clear h
  intro h
  unfold TL at h
  split at h
  next cs=>
   split at h
   ·cases h
   next ds ids l' h1=>
    simp only[Option.some.injEq,Prod.mk.injEq] at h;obtain⟨rfl,rfl⟩:=h
    obtain⟨es',k1,k2⟩:=fJ (fun d e ids l h hl=>kR depth d e ids l h hl) _ ds ids l' h1 hl
    exact⟨_, .sharedT rfl k1 k2 rfl, .refl _⟩
  next=>
   split at h
   ·cases h
   next e0 ids l' h1=>
    simp only[Option.some.injEq,Prod.mk.injEq] at h;obtain⟨rfl,rfl⟩:=h
    obtain⟨e',k1,k2⟩:=kR depth d e0 ids l' h1 hl
    exact⟨_, .shared k1 k2, .refl _⟩
 unfold Kw at h
 split at h
 next e1 sh own l1 h1=>
  simp only[cond_eq_ite] at h
  split at h
  next hc=>
   simp only[Option.some.injEq,Prod.mk.injEq] at h;obtain⟨rfl,rfl⟩:=h
   simp only[Bool.and_eq_true,decide_eq_true_eq] at hc
   obtain⟨e',k1,k2⟩:=Hf d _ sh own _ h1 hl
   exact⟨e', .own k1 hc.1 hc.2,k2⟩
  next=>exact viaS h
 next=>exact viaS h
def Cf.start (args:List D) (nt:Nat) (path:List PE):Cf:={ tm:=TT.mk (EI args (args.length+(nt - args.length))) (args.length+(nt - args.length)+1) 0 1,nt:=args.length+(nt - args.length),stk:=[],bk:=[],loop:=none,todo:=path }
theorem VN (args:List D) (nt:Nat) (path:List PE):(Cf.start args nt path).abs=St.start args nt:=by
 simp only[Cf.start,Cf.abs,Cs.abs,St.start,St.enter,List.map_nil,bZ,bP,Option.map_none]
 congr 1
 exact KW args nt
def aik (P:Program) (fn:Func) (e:Ex) (c':Cf):Option (D×List Prop):=
 match e.done,resD P c'.abs fn.results.toList with
 |true,some ds=>match Kw c'.bk (rF ds) with
  |some (res,l)=>some (res,l ++ c'.cds)
  |none=>none
 |_,_=>none
def cu (P:Program) (X:aB) (fuel:Nat) (path:List PE) (f:FuncId) (args:List D):Option (D×List Prop):=
 match jq P f with
 |none=>none
 |some (fn,c)=>match evX P X fuel (.code c) (Cf.start args fn.ntmps path) with
  |none=>none
  |some (e,c')=>aik P fn e c'
section
variable {P:Program} {X:aB} (hX:bG P X)
include hX in
theorem VT {fuel:Nat} {path:List PE} {f:FuncId} {args:List D} {res:D} {l:List Prop} (h:cu P X fuel path f args=some (res,l)) (hl:aI l):CallsD P f args res:=by
 unfold cu at h
 split at h
 ·cases h
 next fn c hb=>
  split at h
  ·cases h
  next e c' hev=>
   unfold aik at h
   split at h
   next ds hd hr=>
    split at h
    next res0 l0 hf=>
     simp only[Option.some.injEq,Prod.mk.injEq] at h;obtain⟨rfl,rfl⟩:=h
     rw[aW] at hl
     obtain⟨_,r1,_⟩:=yR hX fuel _ _ _ _ hev hl.2
     rw[VN] at r1
     obtain⟨e',k1,k2⟩:=JK hf hl.1
     exact Qv k2 (GI (fun f as res h=>h) hb r1 (by cases e<;>simp[Ex.done] at hd<;>simp) hr k1)
    ·cases h
   ·cases h
def Cs.run (c:Cs) (path:List PE):Cf:={ c with todo:=path }
def fG (P:Program) (X:aB) (fuel:Nat) (b:Code) (path:List PE) (keep:List (List Nat)) (ren:List (Nat×Nat)) (c:Cs):Option (Ex×Cs×List Prop):=
 match evX P X fuel (.code b) (c.run path) with
 |some (e,c')=>bif mY ren then some (e,c'.toCs.norm keep ren,c'.cds) else none
 |none=>none
include hX in
theorem Aq {fuel:Nat} {b:Code} {path:List PE} {keep:List (List Nat)} {ren:List (Nat×Nat)} {c c1:Cs} {e:Ex} {l:List Prop} (h:fG P X fuel b path keep ren c=some (e,c1,l)) (hl:aI l):Runs P (CallsD P) (.code b) c.abs e c1.abs:=by
 unfold fG at h
 split at h
 next e' c' hev=>
  simp only[cond_eq_ite] at h
  split at h
  next ho=>
   simp only[Option.some.injEq,Prod.mk.injEq] at h
   obtain⟨rfl,rfl,rfl⟩:=h
   obtain⟨_,r1,_⟩:=yR hX fuel _ _ _ _ hev hl
   exact .late rfl r1 (zT c'.toCs keep ho)
  ·cases h
 ·cases h
include hX in
theorem Wu {fuel:Nat} {b:Code} {path:List PE} {keep:List (List Nat)} {ren:List (Nat×Nat)} {c c1:Cs} {σ:St} {e:Ex} {l:List Prop} (h:fG P X fuel b path keep ren c=some (.normal,c1,l)) (hl:aI l)
  (hr:Runs P (CallsD P) (.rounds b) c1.abs e σ):Runs P (CallsD P) (.rounds b) c.abs e σ:= .round (Aq hX h hl) hr
include hX in
theorem VP {fuel:Nat} {b:Code} {path:List PE} {keep:List (List Nat)} {ren:List (Nat×Nat)} {c c1:Cs} {e:Ex} {l:List Prop} (h:fG P X fuel b path keep ren c=some (e,c1,l)) (hl:aI l) (he:e≠ .normal):
  Runs P (CallsD P) (.rounds b) c.abs e c1.abs:= .last (Aq hX h hl) he
def lF:Code→List Code
 | .seq a b=>lF a ++ lF b
 | .cond _ a b=>lF a ++ lF b
 | .block _ a=>lF a
 | .loop a=>a::lF a
 | .rangeFunc _ _ a b=>lF a ++ lF b
 |_=>[]
def af (P:Program) (f:FuncId) (k:Nat):Code:=match jq P f with
 |some (_,c)=>(lF c).getD k .skip
 |none=> .skip
theorem ak {b:Code} {σ σ':St} {e:Ex} (h:Runs P (CallsD P) (.rounds b) σ e σ'):Runs P (CallsD P) (.code (.loop b)) σ e σ':= .loop h
end
end
end Go.Dam
namespace Go.Dam
open Go
variable [gB]
theorem aV {P:Program} {X:aB} (hX:bG P X) {fuel:Nat} {path:List PE} {f:FuncId} {args:List D} {res res':D} {l:List Prop}
  (h:cu P X fuel path f args=some (res,l)) (hl:aI l) (e:res'=res):CallsD P f args res':=by rw[e];exact VT hX h hl
theorem iI {P:Program} {X:aB} (hX:bG P X) {fuel:Nat} {b:Code} {path:List PE} {keep:List (List Nat)} {ren:List (Nat×Nat)} {c c1:Cs} {σ:St} {e:Ex} {l:List Prop}
  (h:fG P X fuel b path keep ren c=some (.normal,c1,l)) (hl:aI l) (hr:Runs P (CallsD P) (.rounds b) c1.abs e σ):Runs P (CallsD P) (.rounds b) c.abs e σ:=Wu hX h hl hr
theorem iW {P:Program} {X:aB} (hX:bG P X) {fuel:Nat} {b:Code} {path:List PE} {keep:List (List Nat)} {ren:List (Nat×Nat)} {c c1:Cs} {σ:St} {e e0:Ex} {l:List Prop}
  (h:fG P X fuel b path keep ren c=some (e0,c1,l)) (hl:aI l) (hn:e0≠ .normal) (he:e=e0∧σ=c1.abs):Runs P (CallsD P) (.rounds b) c.abs e σ:=by
 obtain⟨rfl,rfl⟩:=he;exact VP hX h hl hn
end Go.Dam
end

section
namespace Go.Dam
open Go Go.RowKit
theorem wrap_u64 (n:Int):IntKind.wrap .u64 n=n%18446744073709551616:=by simp[IntKind.wrap,IntKind.signed,IntKind.bits]
theorem wrap_u32 (n:Int):IntKind.wrap .u32 n=n%4294967296:=by simp[IntKind.wrap,IntKind.signed,IntKind.bits]
theorem wrap_u8 (n:Int):IntKind.wrap .u8 n=n%256:=by simp[IntKind.wrap,IntKind.signed,IntKind.bits]
theorem wrap_i64 (n:Int):IntKind.wrap .i64 n=if n%18446744073709551616≥9223372036854775808 then n%18446744073709551616 - 18446744073709551616 else n%18446744073709551616:=by simp[IntKind.wrap,IntKind.signed,IntKind.bits]
theorem aT {n:Int} (h1:-9223372036854775808≤n) (h2:n<9223372036854775808):IntKind.wrap .i64 n=n:=by
 rw[wrap_i64];split<;>omega
theorem dP {n:Int} (h1:0≤n) (h2:n<18446744073709551616):IntKind.wrap .u64 n=n:=by rw[wrap_u64];omega
theorem dX (k:IntKind) (a b:Int):aj .add k a b=k.wrap (a+b):=rfl
theorem eY (k:IntKind) (a b:Int):aj .sub k a b=k.wrap (a - b):=rfl
theorem kP (k:IntKind) (a b:Int):aj .mul k a b=k.wrap (a*b):=rfl
theorem Kq (k:IntKind) {a b:Int} (ha:0≤a):aj .quo k a b=k.wrap (a / b):=by show k.wrap (a.tdiv b)=_;rw[Int.tdiv_eq_ediv_of_nonneg ha]
theorem CG (k:IntKind) {a b:Int} (ha:0≤a):aj .rem k a b=a%b:=by show a.tmod b=_;rw[Int.tmod_eq_emod_of_nonneg ha]
theorem zN {a s:Int} (h0:0≤s) (h1:s≤64):aj .shr .u64 a s=a / 2 ^ s.toNat:=by
 show a.fdiv (2 ^ min s.toNat 64)=_
 rw[show min s.toNat 64=s.toNat by omega,Int.fdiv_eq_ediv_of_nonneg _ (Int.le_of_lt (Int.pow_pos (by decide)))]
theorem Iz {a s:Int} (h0:0≤s) (h1:s≤64):aj .shl .u64 a s=IntKind.wrap .u64 (a*2 ^ s.toNat):=by
 show IntKind.wrap .u64 (a*2 ^ min s.toNat 64)=_
 rw[show min s.toNat 64=s.toNat by omega]
theorem mO {x:Int} (n:Nat) (hn:n≤64) (h0:0≤x) (h1:x<18446744073709551616):aj .and .u64 x (2 ^ n - 1)=x%2 ^ n:=by
 obtain⟨m,rfl⟩:=Int.eq_ofNat_of_zero_le h0
 have hm:m<18446744073709551616:=by omega
 have hp:(2:Int) ^ n - 1=((2 ^ n - 1:Nat):Int):=by
  have:1≤2 ^ n:=Nat.one_le_two_pow
  rw[Int.natCast_sub this];simp
 have h64:2 ^ n≤2 ^ 64:=Nat.pow_le_pow_right (by decide) hn
 have hpos:0<2 ^ n:=Nat.two_pow_pos n
 show IntKind.wrap .u64 ((BitVec.ofInt 64 (m:Int) &&& BitVec.ofInt 64 (2 ^ n - 1)).toNat:Int)=_
 rw[hp,wrap_u64,BitVec.ofInt_natCast,BitVec.ofInt_natCast,BitVec.toNat_and,BitVec.toNat_ofNat,BitVec.toNat_ofNat]
 rw[Nat.mod_eq_of_lt (show m<2 ^ 64 from hm),Nat.mod_eq_of_lt (show 2 ^ n - 1<2 ^ 64 by omega),Nat.and_two_pow_sub_one_eq_mod]
 have h2:m%2 ^ n≤m:=Nat.mod_le _ _
 have h3:((m%2 ^ n:Nat):Int)%18446744073709551616=((m%2 ^ n:Nat):Int):=by omega
 rw[h3];simp
@[simp] theorem aQ {a b:Int}:(ai .lss a b=true)↔a<b:=by simp[ai]
@[simp] theorem ag3 {a b:Int}:(ai .leq a b=true)↔a≤b:=by simp[ai]
@[simp] theorem dV {a b:Int}:(ai .gtr a b=true)↔b<a:=by simp[ai]
@[simp] theorem iQ {a b:Int}:(ai .geq a b=true)↔b≤a:=by simp[ai]
@[simp] theorem iM {a b:Int}:(ai .eql a b=true)↔a=b:=by simp[ai]
@[simp] theorem aP {a b:Int}:(ai .neq a b=true)↔a≠b:=by simp[ai]
@[simp] theorem aX {a b:Int}:(ai .lss a b=false)↔b≤a:=by simp[ai]
@[simp] theorem SI {a b:Int}:(ai .leq a b=false)↔b<a:=by simp[ai]
@[simp] theorem gI {a b:Int}:(ai .gtr a b=false)↔a≤b:=by simp[ai]
@[simp] theorem iP {a b:Int}:(ai .geq a b=false)↔a<b:=by simp[ai]
@[simp] theorem je {a b:Int}:(ai .eql a b=false)↔a≠b:=by simp[ai]
@[simp] theorem aY {a b:Int}:(ai .neq a b=false)↔a=b:=by simp[ai]
variable [gB]
def Zb:aB:=fun _=>none
theorem Om {P:Program}:bG P Zb:=⟨fun f g h=>(by cases h),fun f g h=>(by cases h),fun f g h=>(by cases h)⟩
def aJ (f:FuncId) (c:Con) (X:aB):aB:=fun k=>bif Nat.beq k f then some c else X k
theorem zu {P:Program} {X:aB} {f:FuncId} {c:Con} (h1:∀ g,c= .call g→∀ args res l,g args=some (res,l)→aI l→CallsD P f args res)
  (h2:∀ g,c= .ext g→∀ vs u l,g vs=some (u,l)→aI l→dA P (callFunc f vs.toArray)=some (.value u))
  (h3:∀ g,c= .own g→∀ k xs a x ys l,g k xs a x=some (ys,l)→aI l→NV P f (xs.map (.int k)) a x (ys.map (.int k))) (hX:bG P X):bG P (aJ f c X):=by
 have key:∀ k d,aJ f c X k=some d→k=f∧c=d∨X k=some d:=fun k d h=>by
  unfold aJ at h
  cases hb:Nat.beq k f with
  |true=>rw[hb] at h;exact .inl ⟨Nat.eq_of_beq_eq_true hb,by simpa using h⟩
  |false=>rw[hb] at h;exact .inr h
 refine⟨fun k g h=>?_,fun k g h=>?_,fun k g h=>?_⟩<;>rcases key k _ h with⟨rfl,e⟩ | h
 ·exact h1 g e
 ·exact hX.call k g h
 ·exact h2 g e
 ·exact hX.ext k g h
 ·exact h3 g e
 ·exact hX.own k g h
theorem ax {P:Program} {X:aB} {f:FuncId} {g:List D→Option (D×List Prop)} (hg:∀ args res l,g args=some (res,l)→aI l→CallsD P f args res) (hX:bG P X):bG P (aJ f (.call g) X):=
 zu (fun g' e=>by cases e;exact hg) (fun g' e=>by cases e) (fun g' e=>by cases e) hX
theorem Ui {P:Program} {X:aB} {f:FuncId} {g:List Value→Option (Value×List Prop)} (hg:∀ vs u l,g vs=some (u,l)→aI l→dA P (callFunc f vs.toArray)=some (.value u)) (hX:bG P X):bG P (aJ f (.ext g) X):=
 zu (fun g' e=>by cases e) (fun g' e=>by cases e;exact hg) (fun g' e=>by cases e) hX
theorem Vo {P:Program} {X:aB} {f:FuncId} {g:IntKind→List Int→Value→Value→Option (List Int×List Prop)} (hg:∀ k xs a x ys l,g k xs a x=some (ys,l)→aI l→NV P f (xs.map (.int k)) a x (ys.map (.int k))) (hX:bG P X):bG P (aJ f (.own g) X):=
 zu (fun g' e=>by cases e) (fun g' e=>by cases e) (fun g' e=>by cases e;exact hg) hX
end Go.Dam
end

section
namespace Go.Dam
open Go Go.RowKit Go.ChangeShapes Go.WideShapes
section
variable {H:Type} {enc:TypeId×Value→H} {P:Program} {w:World} {spare:Nat→Bool}
def SV (k0 k1:IntKind) (w:World) (v:Value) (xs ys:List Int):Prop:=
 xs.length=ys.length∧(∀ i,i<xs.length→(Lit.int k0 (xs.getD i 0)).wf=true)∧(∀ i,i<xs.length→(Lit.int k1 (ys.getD i 0)).wf=true)∧
  ∃ o cp,v= .slice o xs.length cp∧xs.length≤cp∧cp≤maxLen∧(xs.length≠0→∃ ad,o=some ad∧ad.spot=none∧ad.block<w.heap.size)∧
   ∀ i,i<xs.length→w.cell? (aG (o.getD default) (i*2))=some (.int k0 (xs.getD i 0))∧w.cell? (aG (o.getD default) (i*2+1))=some (.int k1 (ys.getD i 0))
theorem LP (a:Addr) (n:Nat) (h:a.spot=none):a.add n=aG a n:=by
 unfold Addr.add aG
 split
 ·next e=>subst e;cases a;simp at h;simp[h]
 ·rfl
end
variable [gB]
theorem SV.rep (hg:¬ Live) {k0 k1:IntKind} {w:World} {v:Value} {xs ys:List Int} (h:SV k0 k1 w v xs ys):aC w (fun k=>k<w.heap.size) (.rc [.ints k0 xs, .ints k1 ys]) v:=by
 obtain⟨_,_,_,o,cp,rfl,hl,_,h0,hc⟩:=h
 simp only[aC]
 refine⟨o,cp,rfl,fun q=>absurd q hg,hl,h0,fun i j c hi hj=>?_⟩
 have:=hc i hi
 match j,hj with
 |0,hj=>simp at hj;subst hj;exact⟨_,this.1,rfl⟩
 |1,hj=>simp at hj;subst hj;exact⟨_,this.2,rfl⟩
theorem wf_u64 {n:Int} (h:(Lit.int .u64 n).wf=true):0≤n∧n<18446744073709551616:=by
 simp[Lit.wf,IntKind.has,IntKind.min,IntKind.max,IntKind.signed,IntKind.bits] at h;omega
theorem wf_i64 {n:Int} (h:(Lit.int .i64 n).wf=true):-9223372036854775808≤n∧n<9223372036854775808:=by
 simp[Lit.wf,IntKind.has,IntKind.min,IntKind.max,IntKind.signed,IntKind.bits] at h;omega
end Go.Dam
end

section
namespace Go.Dam
open Go Go.RowKit
variable [gB]
def mkL:List IntKind→(Nat→Int)→List D
 |[],_=>[]
 |k::ks,f=> .v (.int k (f 0))::mkL ks (fun i=>f (i+1))
end Go.Dam
end
