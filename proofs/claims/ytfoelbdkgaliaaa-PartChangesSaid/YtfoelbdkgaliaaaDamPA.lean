/- The engine: an abstract machine for the program's functions, proved right against the model. No condition. -/
import Derived.Test.YtfoelbdkgaliaaaDamL
set_option linter.unusedSectionVars false
set_option linter.unusedVariables false
set_option linter.unusedSimpArgs false
section
namespace Go.Dam
open Go Go.RowKit
variable [gB]
section
variable {P:Program} {w:World} {A:Nat→Prop} {β:Env} {base:Nat} {σ:St} {a:Act} {acts:List (Array Value)}
theorem Y6 (a:Act) (dst:Option Tmp) (u:Value):(a.put dst u).tmps=match dst with | some t=>a.tmps.setIfInBounds t u | none=>a.tmps:=by
 cases dst<;>rfl
theorem Rel.oJ {w:World} {A:Nat→Prop} {β:Env} {base:Nat} {σ:St} {acts:List (Array Value)} (h:Rel w A β base σ a.tmps acts) (dst:Option Tmp) {d:D} {u:Value} (hd:Rep w A β d u):
  Rel w A β base (σ.put dst d) (a.put dst u).tmps acts:=by
 rw[Y6];exact h.put dst hd
theorem tZ (w:World) (c:Array Value) (T:TypeId):(w.alloc (.cells c T)).heap[w.heap.size]? =some (.cells c T (0,0)):=by show(w.heap.push _)[w.heap.size]? =_;simp
theorem wF (hrel:Rel w A β base σ a.tmps acts) {o:Oper} {e:Eff} {r:Result Next} (hr:(execOp a.eval o).run P w=r) (hE:Good P w A β r e) {id:Nat} {σ':St} (hs:dK σ o.dst id e=some σ'):
  ∃ u w' β',((execOp a.eval o).run P w= .ok (.value u) w'∨((execOp a.eval o).run P w= .ok .skip w'∧u=undef))∧Rel w' A β' base σ' (a.put o.dst u).tmps acts∧Turn A A base w w':=by
 cases e with
 |val d=>
  obtain⟨u,h1,h2⟩:=hE
  simp[dK] at hs;subst hs
  exact⟨u,w,β, .inl (by rw[hr,h1]),hrel.oJ o.dst h2, .refl _ _ _⟩
 |box cs=>
  obtain⟨T,vs,h1,h2⟩:=hE
  simp[dK] at hs;subst hs
  refine⟨_,_,_, .inl (by rw[hr,h2]),(hrel.new id vs.toArray T cs vs h1 (fun j u h=>by simpa using h)).oJ o.dst ?_, .alloc hrel _⟩
  simp only[Rep]
  exact⟨_,Env.bU _ _ _,rfl⟩
 |row cs n sz=>
  obtain⟨T,vs,cap,h1,h2,h3,h4⟩:=hE
  simp[dK] at hs;subst hs
  refine⟨_,_,_, .inl (by rw[hr,h4]),(hrel.new id vs.toArray T cs vs h1 (fun j u h=>by simpa using h)).oJ o.dst ?_, .alloc hrel _⟩
  simp only[Rep]
  exact⟨_,_,rfl, .inr ⟨by simpa using h2,_,Env.bU _ _ _,rfl,⟨_,_,_,tZ _ _ _,by simpa using h3⟩⟩⟩
 |row0=>
  obtain⟨T,vs,h4⟩:=hE
  simp[dK] at hs;subst hs
  exact⟨_,_,β, .inl (by rw[hr,h4]),(hrel.afD _).oJ o.dst (by simp only[Rep,aC];exact⟨_,rfl⟩), .alloc hrel _⟩
 |sto i off ds=>
  obtain⟨ad,vs,h1,h2,h3,h4⟩:=hE
  simp only[dK] at hs
  split at hs
  next cells hb=>
   split at hs
   next hl=>
    simp at hs;subst hs
    obtain⟨w',k1,k2,k3⟩:=hrel.store P hb h1 h2 h3 hl
    exact⟨undef,w',β, .inr ⟨by rw[hr,h4,k1];rfl,rfl⟩,k2.oJ o.dst (by simp[Rep,aC]),k3⟩
   ·cases hs
  ·cases hs
 |cpy i off ds k=>
  obtain⟨ad,vs,h1,h2,h3,h4⟩:=hE
  simp only[dK] at hs
  split at hs
  next cells hb=>
   split at hs
   next hl=>
    simp at hs;subst hs
    obtain⟨w',k1,k2,k3⟩:=hrel.store P hb h1 h2 h3 hl
    exact⟨k,w',β, .inl (by rw[hr,h4,k1];rfl),k2.oJ o.dst (Rep.l7 k),k3⟩
   ·cases hs
  ·cases hs
 |app s sz m ds=>
  obtain⟨t,t2,ty,el,e2,i,z,oa,n,c,x,vs,hu,hu2,hi,hz,hzs,hb1,rfl,hsrc,hds,hone,hbytes,hdl,hrs,hssz,hsv,hrun⟩:=hE
  have hd2:∀ k,TypeDesc.slice e2≠ .int k:=fun k h=>by cases h
  have hvl:=hds.length
  cases s with
  |v y=>
   have hy:=hsv y rfl
   subst hy
   simp only[dK,Option.some.injEq] at hs;subst hs
   simp only[Rep,aC] at hrs
   cases hrs
   rcases Nat.lt_or_ge 0 m with hm | hm
   ·obtain⟨cap,rest,g1,g2,g3⟩:=pX (ty:=ty) (o:=none) (n:=0) (c:=0) hu hi hz hu2 hd2 hb1 hzs hsrc (by omega) hbytes (olds:=[]) (fun w' _=>by simp[Builtin.firstCells])
    refine⟨.slice (some ⟨w.heap.size,0,none⟩) (0+m) cap,w.drew.alloc (.cells (([] ++ vs).toArray ++ rest) el),β.set id (some ⟨w.heap.size,0,none⟩), .inl (by rw[hr,hrun,g3];rfl),?_,?_⟩
    ·have h1:=(hrel.uG (w':=w.drew) rfl).new id (([] ++ vs).toArray ++ rest) el ds vs (Rel.E8 hds) (fun j u hj=>by
      have hlt:=(List.getElem?_eq_some_iff.1 hj).1
      simp only[List.nil_append]
      rw[Array.getElem?_append_left (by simpa using hlt)];simpa using hj)
     refine h1.oJ o.dst ?_
     simp only[Rep]
     refine⟨some ⟨w.heap.size,0,none⟩,cap,by rw[Nat.zero_add], .inr ⟨by omega,_,Env.bU _ _ _,rfl,⟨_,_,_,tZ _ _ _,?_⟩⟩⟩
     simp only[World.size_drew,List.nil_append,Array.size_append,List.size_toArray,g2,hvl,hdl,Nat.zero_add]
     rw[←Nat.add_mul]
     exact Nat.mul_le_mul_right _ (by omega)
    ·exact(Turn.of_heap (w:=w) (w':=w.drew) rfl rfl rfl rfl).trans (.alloc (hrel.uG (w':=w.drew) rfl) _)
   ·obtain rfl:m=0:=by omega
    have hds0:ds=[]:=List.length_eq_zero_iff.1 (by omega)
    subst hds0
    simp only[aF] at hds;subst hds
    have g:=jG (w':=w) (ty:=ty) hu hi hu2 hd2 hsrc (n:=0) (c:=0) (o:=none) (by omega) (fun a h=>by cases h) (fun _=>rfl)
    refine⟨.slice none 0 0,w,β.set id none, .inl (by rw[hr,hrun,g];rfl),?_, .refl _ _ _⟩
    have h1:=hrel.rebind (w':=w) id none (.refl _ _) hrel.top (Nat.le_refl _) (.refl _) (fun _ _ _ _ _ _=>rfl)
    have h2:=h1.setB id ⟨[].map (D.forget id),false⟩ (.inl (And.intro (Env.bU _ _ _) (by simp))) (fun _ _ _ _ _ _ h=>by rw[Env.bU] at h;cases h)
    exact h2.oJ o.dst (by simp only[Rep];exact⟨none,0,rfl, .inl (by simp)⟩)
  |emp=>
   simp only[dK,Option.some.injEq] at hs;subst hs
   simp only[Rep,aC] at hrs
   obtain⟨o1,he⟩:=hrs
   cases he
   rcases Nat.lt_or_ge 0 m with hm | hm
   ·obtain⟨cap,rest,g1,g2,g3⟩:=pX (ty:=ty) (o:=some o1) (n:=0) (c:=0) hu hi hz hu2 hd2 hb1 hzs hsrc (by omega) hbytes (olds:=[]) (fun w' _=>by simp[Builtin.firstCells,loadCells,loadCellsFrom])
    refine⟨.slice (some ⟨w.heap.size,0,none⟩) (0+m) cap,w.drew.alloc (.cells (([] ++ vs).toArray ++ rest) el),β.set id (some ⟨w.heap.size,0,none⟩), .inl (by rw[hr,hrun,g3];rfl),?_,?_⟩
    ·have h1:=(hrel.uG (w':=w.drew) rfl).new id (([] ++ vs).toArray ++ rest) el ds vs (Rel.E8 hds) (fun j u hj=>by
      have hlt:=(List.getElem?_eq_some_iff.1 hj).1
      simp only[List.nil_append]
      rw[Array.getElem?_append_left (by simpa using hlt)];simpa using hj)
     refine h1.oJ o.dst ?_
     simp only[Rep]
     refine⟨some ⟨w.heap.size,0,none⟩,cap,by rw[Nat.zero_add], .inr ⟨by omega,_,Env.bU _ _ _,rfl,⟨_,_,_,tZ _ _ _,?_⟩⟩⟩
     simp only[World.size_drew,List.nil_append,Array.size_append,List.size_toArray,g2,hvl,hdl,Nat.zero_add]
     rw[←Nat.add_mul]
     exact Nat.mul_le_mul_right _ (by omega)
    ·exact(Turn.of_heap (w:=w) (w':=w.drew) rfl rfl rfl rfl).trans (.alloc (hrel.uG (w':=w.drew) rfl) _)
   ·obtain rfl:m=0:=by omega
    have hds0:ds=[]:=List.length_eq_zero_iff.1 (by omega)
    subst hds0
    simp only[aF] at hds;subst hds
    have g:=jG (w':=w) (ty:=ty) hu hi hu2 hd2 hsrc (n:=0) (c:=0) (o:=some o1) (by omega) (fun a h=>by simp[storeCells]) (fun _=>rfl)
    refine⟨.slice (some o1) 0 0,w,β.set id none, .inl (by rw[hr,hrun,g];rfl),?_, .refl _ _ _⟩
    have h1:=hrel.rebind (w':=w) id none (.refl _ _) hrel.top (Nat.le_refl _) (.refl _) (fun _ _ _ _ _ _=>rfl)
    have h2:=h1.setB id ⟨[].map (D.forget id),false⟩ (.inl (And.intro (Env.bU _ _ _) (by simp))) (fun _ _ _ _ _ _ h=>by rw[Env.bU] at h;cases h)
    exact h2.oJ o.dst (by simp only[Rep];exact⟨some o1,0,rfl, .inl (by simp)⟩)
  |sl j off n' sz'=>
   have hsz:=hssz j off n' sz' rfl
   obtain⟨sz',r'⟩:=sz'
   simp only at hsz
   subst hsz
   simp only[dK] at hs
   split at hs
   next cells hb=>
    split at hs
    next hl=>
     simp only[Option.some.injEq] at hs;subst hs
     simp only[Rep] at hrs
     obtain⟨o2,c2,he,hrs⟩:=hrs
     cases he
     have holdlen:((cells.drop off).take (n*i.size)).length=n*i.size:=by simp;omega
     have grow:∀ olds:List Value,c<n+m→aF w A β ((cells.drop off).take (n*i.size)) olds→(∀ w':World,w'.heap=w.heap→(Builtin.firstCells i.size n (.slice oa n c)).run P w'= .ok olds.toArray w')→
       ∃ u w' β',((execOp a.eval o).run P w= .ok (.value u) w'∨((execOp a.eval o).run P w= .ok .skip w'∧u=undef))∧
        Rel w' A β' base (((σ.forget j).setB j ⟨((cells.drop off).take (n*i.size) ++ ds).map (D.forget j),false⟩).put o.dst (.sl j 0 (n+m) ⟨i.size,0⟩)) (a.put o.dst u).tmps acts∧Turn A A base w w':=by
      intro olds hlt holds hfirst
      obtain⟨cap,rest,g1,g2,g3⟩:=pX (ty:=ty) hu hi hz hu2 hd2 hb1 hzs hsrc hlt hbytes hfirst
      refine⟨.slice (some ⟨w.heap.size,0,none⟩) (n+m) cap,w.drew.alloc (.cells ((olds ++ vs).toArray ++ rest) el),β.set j (some ⟨w.heap.size,0,none⟩), .inl (by rw[hr,hrun,g3];rfl),?_,?_⟩
      ·have h1:=(hrel.uG (w':=w.drew) rfl).new j ((olds ++ vs).toArray ++ rest) el ((cells.drop off).take (n*i.size) ++ ds) (olds ++ vs) (Rel.E8 (holds.append hds)) (fun k u hk=>by
        have hlt2:=(List.getElem?_eq_some_iff.1 hk).1
        rw[Array.getElem?_append_left (by simpa using hlt2)];simpa using hk)
       refine h1.oJ o.dst ?_
       simp only[Rep]
       refine⟨_,_,rfl, .inr ⟨by omega,_,Env.bU _ _ _,rfl,⟨_,_,_,tZ _ _ _,?_⟩⟩⟩
       simp only[World.size_drew,Array.size_append,List.size_toArray,List.length_append,g2,hvl,hdl,holds.length,holdlen,Nat.zero_add]
       rw[←Nat.add_mul,←Nat.add_mul]
       exact Nat.mul_le_mul_right _ (by omega)
      ·exact(Turn.of_heap (w:=w) (w':=w.drew) rfl rfl rfl rfl).trans (.alloc (hrel.uG (w':=w.drew) rfl) _)
     rcases hrs with⟨hn0,rfl⟩ | ⟨hnr,ad,hβ,rfl,hroom⟩
     ·-- nothing was there
      obtain rfl:n=0:=by omega
      rcases Nat.lt_or_ge 0 m with hm | hm
      ·refine grow [] (by omega) (by simp[aF]) (fun w' _=>?_)
       cases oa<;>simp[Builtin.firstCells,loadCells,loadCellsFrom]
      ·obtain rfl:m=0:=by omega
       have hds0:ds=[]:=List.length_eq_zero_iff.1 (by omega)
       subst hds0
       simp only[aF] at hds;subst hds
       have g:=jG (w':=w) (ty:=ty) hu hi hu2 hd2 hsrc (n:=0) (c:=0) (o:=oa) (by omega) (fun a h=>by simp[storeCells]) (fun _=>rfl)
       refine⟨.slice oa 0 0,w,β.set j none, .inl (by rw[hr,hrun,g];rfl),?_, .refl _ _ _⟩
       have h1:=hrel.rebind (w':=w) j none (.refl _ _) hrel.top (Nat.le_refl _) (.refl _) (fun _ _ _ _ _ _=>rfl)
       have h2:=h1.setB j ⟨((cells.drop off).take (0*i.size) ++ []).map (D.forget j),false⟩ (.inl (And.intro (Env.bU _ _ _) (by simp))) (fun _ _ _ _ _ _ h=>by rw[Env.bU] at h;cases h)
       exact h2.oJ o.dst (by simp only[Rep];exact⟨oa,0,rfl, .inl (by simp)⟩)
     ·rcases Nat.lt_or_ge c (n+m) with hlt | hge
      ·rcases hrel.blk j _ hb with⟨h2,_⟩ | ⟨ad',h2,h3⟩
       ·rw[hβ] at h2;cases h2
       ·rw[hβ] at h2;cases h2
        have hcells:=(h3.cells.drop h3.spot off).take rfl (n*i.size)
        obtain⟨olds,k1,k2⟩:=wo (P:=P) (w:=w) rfl hcells
        rw[holdlen] at k1
        exact grow olds hlt k2 (fun w' hw'=>by simp[Builtin.firstCells,k1 w' hw'])
      ·obtain⟨w',k1,k2,k3,k4⟩:=hrel.app P hb hβ (off:=off) (k:=n*i.size) (lim:=c*i.size) hds hone (by omega) hroom (by rw[hdl,←Nat.add_mul];exact Nat.mul_le_mul_right _ hge)
       have g:=jG (w':=w') (ty:=ty) hu hi hu2 hd2 hsrc (n:=n) (c:=c) (o:=some (aG ad off)) hge (fun a h=>by cases h;rw[Ag];exact k1) (fun h=>by cases h)
       refine⟨.slice (some (aG ad off)) (n+m) c,w',_, .inl (by rw[hr,hrun,g];rfl),k2.oJ o.dst ?_,k3⟩
       simp only[Rep]
       refine⟨_,_,rfl, .inr ⟨by omega,_,Env.bU _ _ _,by simp[aG],?_⟩⟩
       simpa using k4
    ·cases hs
   ·cases hs
  |_=>simp[dK] at hs
end
end Go.Dam
end

section
namespace Go.Dam
open Go Go.RowKit
variable [gB]
def share (bk:Nat→Option dR):Nat→D→Option (D×List Nat)
 |_, .v x=>some (.v x,[])
 |_, .emp=>some (.emp,[])
 |_, .sh n cs=>some (.sh n cs,[])
 |_, .rc cs=>some (.rc cs,[])
 |k+1, .sl id off n sz=>match bk id with
  |none=>none
  |some b=>if off+n*sz≤b.cells.length then
    match aN (share bk k) ((b.cells.drop off).take (n*sz)) with
    |none=>none
    |some (cs,ids)=>some (.sh n cs,id::ids)
   else none
 |k+1, .agg cs=>match aN (share bk k) cs with
  |none=>none
  |some (ds,ids)=>some (.agg ds,ids)
 |_, .fn f []=>some (.fn f [],[])
 |_,_=>none
where
 aN (g:D→Option (D×List Nat)):List D→Option (List D×List Nat)
 |[]=>some ([],[])
 |d::ds=>match g d,aN g ds with
  |some (e,i),some (es,is)=>some (e::es,i ++ is)
  |_,_=>none
abbrev aN:=share.aN
section
variable {P:Program} {w:World} {A:Nat→Prop} {β:Env} {base:Nat} {σ:St} {tmps:Array Value} {acts:List (Array Value)}
theorem kL {A':Nat→Prop} {g:D→Option (D×List Nat)} {ok:Nat→Prop} (hg:∀ d e ids u,g d=some (e,ids)→(∀ i∈ids,ok i)→Rep w A β d u→aC w A' e u):
  ∀ (ds es:List D) (ids:List Nat) (vs:List Value),aN g ds=some (es,ids)→(∀ i∈ids,ok i)→aF w A β ds vs→dD w A' es vs
 |[],es,ids,vs,h,_,hr=>by
  simp[share.aN] at h;obtain⟨rfl,rfl⟩:=h
  simp[aF] at hr;simp[dD,hr]
 |d::ds,es,ids,vs,h,hk,hr=>by
  simp only[share.aN] at h
  split at h
  next e i es' is' h1 h2=>
   simp at h;obtain⟨rfl,rfl⟩:=h
   simp only[aF] at hr
   obtain⟨x,xs,rfl,r1,r2⟩:=hr
   simp only[dD]
   exact⟨x,xs,rfl,hg d e i x h1 (fun j hj=>hk j (by simp[hj])) r1,kL hg ds es' is' xs h2 (fun j hj=>hk j (by simp[hj])) r2⟩
  ·cases h
theorem sK {A':Nat→Prop} {g:D→Option (D×List Nat)} {ok:Nat→Prop} (hg:∀ d e ids u,g d=some (e,ids)→(∀ i∈ids,ok i)→Rep w A β d u→aC w A' e u):
  ∀ (ds es:List D) (ids:List Nat) (ad:Addr),aN g ds=some (es,ids)→(∀ i∈ids,ok i)→aZ w A β ds ad→bC w A' es ad
 |[],es,ids,ad,h,_,hr=>by simp[share.aN] at h;obtain⟨rfl,rfl⟩:=h;simp[bC]
 |d::ds,es,ids,ad,h,hk,hr=>by
  simp only[share.aN] at h
  split at h
  next e i es' is' h1 h2=>
   simp at h;obtain⟨rfl,rfl⟩:=h
   obtain⟨⟨u,r1,r2⟩,r3⟩:=hr
   simp only[bC]
   exact⟨⟨u,r1,hg d e i u h1 (fun j hj=>hk j (by simp[hj])) r2⟩,sK hg ds es' is' _ h2 (fun j hj=>hk j (by simp[hj])) r3⟩
  ·cases h
theorem kW {g:D→Option (D×List Nat)}:∀ (ds es:List D) (ids:List Nat),aN g ds=some (es,ids)→es.length=ds.length
 |[],es,ids,h=>by simp[share.aN] at h;simp[h.1.symm]
 |d::ds,es,ids,h=>by
  simp only[share.aN] at h
  split at h
  next e i es' is' h1 h2=>
   simp at h;obtain⟨rfl,rfl⟩:=h
   simp[kW ds es' is' h2]
  ·cases h
def NU (σ:St) (β:Env) (A':Nat→Prop) (id:Nat):Prop:=∀ b ad,σ.bk id=some b→β id=some ad→A' ad.block
theorem o5 (hrel:Rel w A β base σ tmps acts) {A':Nat→Prop} (hA:∀ k,A k→A' k):∀ (n:Nat) (d e:D) (ids:List Nat) (u:Value),share σ.bk n d=some (e,ids)→(∀ i∈ids,NU σ β A' i)→Rep w A β d u→aC w A' e u:=by
 intro n
 induction n with
 |zero=>
  intro d e ids u h hk hr
  cases d with
  |v x=>simp only[share,Option.some.injEq,Prod.mk.injEq] at h;obtain⟨rfl,rfl⟩:=h;simp only[Rep] at hr;exact aC.mono (fun _ _=>rfl) hA _ _ hr
  |emp=>simp only[share,Option.some.injEq,Prod.mk.injEq] at h;obtain⟨rfl,rfl⟩:=h;simp only[Rep] at hr;exact aC.mono (fun _ _=>rfl) hA _ _ hr
  |rc cs=>simp only[share,Option.some.injEq,Prod.mk.injEq] at h;obtain⟨rfl,rfl⟩:=h;simp only[Rep] at hr;exact aC.mono (fun _ _=>rfl) hA _ _ hr
  |sh m cs=>simp only[share,Option.some.injEq,Prod.mk.injEq] at h;obtain⟨rfl,rfl⟩:=h;simp only[Rep] at hr;exact aC.mono (fun _ _=>rfl) hA _ _ hr
  |fn f cs=>
   cases cs with
   |nil=>simp only[share,Option.some.injEq,Prod.mk.injEq] at h;obtain⟨rfl,rfl⟩:=h;simp only[Rep,aF] at hr;obtain⟨vs,rfl,rfl⟩:=hr;simp only[aC,dD];exact⟨[],rfl,rfl⟩
   |cons _ _=>simp[share] at h
  |_=>simp[share] at h
 |succ n ih=>
  intro d e ids u h hk hr
  cases d with
  |v x=>simp only[share,Option.some.injEq,Prod.mk.injEq] at h;obtain⟨rfl,rfl⟩:=h;simp only[Rep] at hr;exact aC.mono (fun _ _=>rfl) hA _ _ hr
  |emp=>simp only[share,Option.some.injEq,Prod.mk.injEq] at h;obtain⟨rfl,rfl⟩:=h;simp only[Rep] at hr;exact aC.mono (fun _ _=>rfl) hA _ _ hr
  |rc cs=>simp only[share,Option.some.injEq,Prod.mk.injEq] at h;obtain⟨rfl,rfl⟩:=h;simp only[Rep] at hr;exact aC.mono (fun _ _=>rfl) hA _ _ hr
  |sh m cs=>simp only[share,Option.some.injEq,Prod.mk.injEq] at h;obtain⟨rfl,rfl⟩:=h;simp only[Rep] at hr;exact aC.mono (fun _ _=>rfl) hA _ _ hr
  |fn f cs=>
   cases cs with
   |nil=>simp only[share,Option.some.injEq,Prod.mk.injEq] at h;obtain⟨rfl,rfl⟩:=h;simp only[Rep,aF] at hr;obtain⟨vs,rfl,rfl⟩:=hr;simp only[aC,dD];exact⟨[],rfl,rfl⟩
   |cons _ _=>simp[share] at h
  |agg cs=>
   simp only[share] at h
   split at h
   ·cases h
   next ds is h1=>
    simp at h;obtain⟨rfl,rfl⟩:=h
    simp only[Rep] at hr
    obtain⟨vs,rfl,hr⟩:=hr
    simp only[aC]
    exact⟨vs,rfl,kL (fun d e ids u h1 h2 h3=>ih d e ids u h1 h2 h3) cs ds is vs h1 hk hr⟩
  |sl id off m sz=>
   simp only[share] at h
   split at h
   ·cases h
   next b hb=>
    split at h
    next hl=>
     split at h
     ·cases h
     next cs is h1=>
      simp at h;obtain⟨rfl,rfl⟩:=h
      simp only[Rep] at hr
      obtain⟨o,c,rfl,hr⟩:=hr
      have hcl:=kW _ _ _ h1
      simp only[aC]
      rcases hr with⟨hm0,rfl⟩ | ⟨hmr,ad,hβ,rfl,hroom⟩
      ·obtain rfl:m=0:=by omega
       have:cs=[]:=List.length_eq_zero_iff.1 (by rw[hcl];simp)
       subst this
       exact⟨o,0,rfl,Nat.le_refl _,by simp,by simp[bC]⟩
      ·refine⟨_,c,rfl,by omega,fun _=>⟨aG ad off,rfl,rfl,hk id (by simp) b ad hb hβ⟩,?_⟩
       rcases hrel.blk id b hb with⟨h2,_⟩ | ⟨ad',h2,h3⟩
       ·rw[hβ] at h2;cases h2
       ·rw[hβ] at h2;cases h2
        exact sK (fun d e ids u h1 h2 h3=>ih d e ids u h1 h2 h3) _ _ _ _ h1 (fun i hi=>hk i (by simp[hi])) ((h3.cells.drop h3.spot off).take rfl _)
    ·cases h
  |_=>simp[share] at h
end
mutual
def dJ (w:World) (A:Nat→Prop):D→Value→List (Option Addr)→Prop
 | .ow n sz cs,u,bl=>∃ o c,u= .slice o n c∧((n=0∧c=0∧cs=[]∧bl=[none])∨
   (n≤c∧∃ ad,o=some ad∧ad.spot=none∧bl=[some ad]∧(∃ cc T,w.heap[ad.block]? =some (.cells cc T (0,0))∧ad.off+c*sz≤cc.size∧ad.off≤cc.size)∧bC w A cs ad))
 | .oc cs,u,bl=>∃ o c,u= .slice o (ah cs) c∧((ah cs=0∧c=0∧aA cs=[]∧bl=[none])∨
   (ah cs≤c∧∃ ad,o=some ad∧ad.spot=none∧bl=[some ad]∧(∃ cc T,w.heap[ad.block]? =some (.cells cc T (0,0))∧ad.off+c*cs.length≤cc.size∧ad.off≤cc.size)∧bC w A (aA cs) ad))
 | .agg cs,u,bl=>∃ vs:List Value,u= .agg vs.toArray∧iG w A cs vs bl
 | .bF cs,u,bl=>∃ vs:List Value,u= .tuple vs.toArray∧iG w A cs vs bl
 |d,u,bl=>aC w A d u∧bl=[]
def iG (w:World) (A:Nat→Prop):List D→List Value→List (Option Addr)→Prop
 |[],vs,bl=>vs=[]∧bl=[]
 |d::ds,vs,bl=>∃ x xs b1 b2,vs=x::xs∧bl=b1 ++ b2∧dJ w A d x b1∧iG w A ds xs b2
end
structure MW (w':World) (A':Nat→Prop) (B:Nat) (bl:List (Option Addr)):Prop where
 each:∀ ad,some ad∈bl→B≤ad.block∧ad.block<w'.heap.size∧¬ A' ad.block
 apart:bl.Pairwise fun x y=>∀ a b,x=some a→y=some b→a.block≠b.block
def CallsD (P:Program) (f:FuncId) (args:List D) (res:D):Prop:=
 ∀ (w:World) (A:Nat→Prop) (vs:List Value),dD w A args vs→(∀ k,A k→k<w.heap.size)→xC w A→
  Calls P f vs.toArray w fun e w'=>∃ v A' bl,e= .returned v∧dJ w' A' res v bl∧MW w' A' w.heap.size bl∧(∀ k,A k→A' k)∧(∀ k,A' k→k<w'.heap.size)∧(∀ k,A' k→k<w.heap.size→A k)∧Below w.heap.size w w'
mutual
def flat:D→Bool
 | .v _=>true
 | .sh n cs=>n ==0 && cs.isEmpty
 | .ow _ _ cs=>jL cs
 | .oc _=>true
 | .agg cs=>jL cs
 | .bF cs=>jL cs
 |_=>false
def jL:List D→Bool
 |[]=>true
 |d::ds=>flat d && jL ds
end
mutual
theorem yx {w:World} {A A':Nat→Prop}:∀ (d:D) (u:Value),flat d=true→aC w A d u→aC w A' d u
 | .v _,_,_,h=>by simpa [aC] using h
 | .sh n cs,u,hf,h=>by
  simp[flat] at hf
  obtain⟨rfl,rfl⟩:=hf
  simp only[aC] at h ⊢
  obtain⟨o,c,rfl,h1,_,_⟩:=h
  exact⟨o,c,rfl,h1,by simp,by simp[bC]⟩
 | .ow _ _ _,_,_,h=>by simp[aC] at h
 | .oc _,_,_,h=>by simp[aC] at h
 | .rc _,_,hf,_=>by simp[flat] at hf
 | .pel _ _ _ _,_,hf,_=>by simp[flat] at hf
 | .agg cs,u,hf,h=>by
  simp only[aC] at h ⊢;simp only[flat] at hf
  obtain⟨vs,rfl,h⟩:=h
  exact⟨vs,rfl,yX cs vs hf h⟩
 | .bF cs,u,hf,h=>by
  simp only[aC] at h ⊢;simp only[flat] at hf
  obtain⟨vs,rfl,h⟩:=h
  exact⟨vs,rfl,yX cs vs hf h⟩
 | .undef,_,hf,_=>by simp[flat] at hf
 | .sl _ _ _ _,_,hf,_=>by simp[flat] at hf
 | .ptr _ _,_,hf,_=>by simp[flat] at hf
 | .shp _ _,_,hf,_=>by simp[flat] at hf
 | .fn _ _,_,hf,_=>by simp[flat] at hf
theorem yX {w:World} {A A':Nat→Prop}:∀ (ds:List D) (vs:List Value),jL ds=true→dD w A ds vs→dD w A' ds vs
 |[],_,_,h=>by simpa [dD] using h
 |d::ds,vs,hf,h=>by
  simp only[jL,Bool.and_eq_true] at hf
  simp only[dD] at h ⊢
  obtain⟨x,xs,rfl,h1,h2⟩:=h
  exact⟨x,xs,rfl,yx d x hf.1 h1,yX ds xs hf.2 h2⟩
end
theorem Df {w:World} {A A':Nat→Prop}:∀ (ds:List D) (ad:Addr),jL ds=true→bC w A ds ad→bC w A' ds ad
 |[],_,_,_=>by simp[bC]
 |d::ds,ad,hf,h=>by
  simp only[jL,Bool.and_eq_true] at hf
  simp only[bC] at h ⊢
  obtain⟨⟨u,h1,h2⟩,h3⟩:=h
  exact⟨⟨u,h1,yx d u hf.1 h2⟩,Df ds _ hf.2 h3⟩
theorem Hy:∀ (xs ys:List D),jL (xs ++ ys)=(jL xs && jL ys)
 |[],ys=>by simp[jL]
 |x::xs,ys=>by simp[jL,Hy xs ys,Bool.and_assoc]
theorem AA (i:Nat):∀ cs:List aH,jL ((cs.map aH.up).map (Col.cell i))=true
 |[]=>rfl
 |c::cs=>by simp only[List.map_cons,jL,AA i cs,Bool.and_true];cases c<;>rfl
theorem GX (cs:List aH):jL (aA cs)=true:=by
 unfold aA gX
 generalize rowLen _=n
 induction n with
 |zero=>simp[jL]
 |succ n ih=>rw[List.range_succ,List.flatMap_append,Hy,ih];simp only[List.flatMap_cons,List.flatMap_nil,List.append_nil,AA,Bool.and_self]
mutual
theorem Ja {w:World} {A A':Nat→Prop}:∀ (d:D) (u:Value) (bl:List (Option Addr)),flat d=true→dJ w A d u bl→dJ w A' d u bl
 | .ow n sz cs,u,bl,hf,h=>by
  simp only[flat] at hf
  simp only[dJ] at h ⊢
  obtain⟨o,c,rfl,h⟩:=h
  refine⟨o,c,rfl,h.imp id ?_⟩
  rintro⟨h1,ad,h2,h3,h4,h5,h6⟩
  exact⟨h1,ad,h2,h3,h4,h5,Df cs ad hf h6⟩
 | .oc cs,u,bl,hf,h=>by
  simp only[dJ] at h ⊢
  obtain⟨o,c,rfl,h⟩:=h
  refine⟨o,c,rfl,h.imp id ?_⟩
  rintro⟨h1,ad,h2,h3,h4,h5,h6⟩
  exact⟨h1,ad,h2,h3,h4,h5,Df _ ad (GX cs) h6⟩
 | .rc _,_,_,hf,_=>by simp[flat] at hf
 | .pel _ _ _ _,_,_,hf,_=>by simp[flat] at hf
 | .agg cs,u,bl,hf,h=>by
  simp only[flat] at hf
  simp only[dJ] at h ⊢
  obtain⟨vs,rfl,h⟩:=h
  exact⟨vs,rfl,ve cs vs bl hf h⟩
 | .bF cs,u,bl,hf,h=>by
  simp only[flat] at hf
  simp only[dJ] at h ⊢
  obtain⟨vs,rfl,h⟩:=h
  exact⟨vs,rfl,ve cs vs bl hf h⟩
 | .v x,u,bl,hf,h=>by simp only[dJ] at h ⊢;exact⟨yx _ _ hf h.1,h.2⟩
 | .sh n cs,u,bl,hf,h=>by simp only[dJ] at h ⊢;exact⟨yx _ _ hf h.1,h.2⟩
 | .undef,_,_,hf,_=>by simp[flat] at hf
 | .sl _ _ _ _,_,_,hf,_=>by simp[flat] at hf
 | .ptr _ _,_,_,hf,_=>by simp[flat] at hf
 | .shp _ _,_,_,hf,_=>by simp[flat] at hf
 | .fn _ _,_,_,hf,_=>by simp[flat] at hf
theorem ve {w:World} {A A':Nat→Prop}:∀ (ds:List D) (vs:List Value) (bl:List (Option Addr)),jL ds=true→iG w A ds vs bl→iG w A' ds vs bl
 |[],_,_,_,h=>by simpa [iG] using h
 |d::ds,vs,bl,hf,h=>by
  simp only[jL,Bool.and_eq_true] at hf
  simp only[iG] at h ⊢
  obtain⟨x,xs,b1,b2,rfl,rfl,h1,h2⟩:=h
  exact⟨x,xs,b1,b2,rfl,rfl,Ja d x b1 hf.1 h1,ve ds xs b2 hf.2 h2⟩
end
end Go.Dam
end

section
namespace Go.Dam
open Go Go.RowKit
variable [gB]
mutual
def thaw (id:Nat):D→D×List (List D)
 | .ow n sz cs=>(.sl id 0 n ⟨sz,0⟩,[cs])
 | .oc cs=>(.sl id 0 (ah cs) ⟨cs.length,0⟩,[aA cs])
 | .agg cs=>(.agg (l9 id cs).1,(l9 id cs).2)
 | .bF cs=>(.bF (l9 id cs).1,(l9 id cs).2)
 |d=>(d,[])
def l9 (id:Nat):List D→List D×List (List D)
 |[]=>([],[])
 |d::ds=>((thaw id d).1::(l9 (id+(thaw id d).2.length) ds).1,(thaw id d).2 ++ (l9 (id+(thaw id d).2.length) ds).2)
end
def gY (σ:St) (id:Nat):List (List D)→St
 |[]=>σ
 |c::cs=>gY ((σ.forget id).setB id ⟨c,false⟩) (id+1) cs
def afA (w:World) (A:Nat→Prop) (c:List D) (oa:Option Addr):Prop:=
 (oa=none∧c=[])∨∃ ad,oa=some ad∧ad.spot=none∧(∃ cc T,w.heap[ad.block]? =some (.cells cc T (0,0))∧ad.off≤cc.size)∧bC w A c ad
inductive Bz (w:World) (A:Nat→Prop):List (List D)→List (Option Addr)→Prop
 |nil:Bz w A [] []
 |cons {c:List D} {oa:Option Addr} {cs:List (List D)} {bl:List (Option Addr)}:afA w A c oa→Bz w A cs bl→Bz w A (c::cs) (oa::bl)
theorem Bz.append {w:World} {A:Nat→Prop}:∀ {cs ds:List (List D)} {bl bm:List (Option Addr)},Bz w A cs bl→Bz w A ds bm→Bz w A (cs ++ ds) (bl ++ bm)
 |_,_,_,_, .nil,k=>k
 |_,_,_,_, .cons h t,k=> .cons h (t.append k)
theorem Bz.length {w:World} {A:Nat→Prop}:∀ {cs:List (List D)} {bl:List (Option Addr)},Bz w A cs bl→cs.length=bl.length
 |_,_, .nil=>rfl
 |_,_, .cons _ t=>by simp[t.length]
mutual
theorem IY {w:World} {A:Nat→Prop}:∀ (d:D) (u:Value) (bl:List (Option Addr)) (id:Nat),dJ w A d u bl→Bz w A (thaw id d).2 bl∧∀ β':Env,(∀ k oa,bl[k]? =some oa→β' (id+k)=oa)→Rep w A β' (thaw id d).1 u
 | .ow n sz cs,u,bl,id,h=>by
  simp only[dJ] at h
  obtain⟨o,c,rfl,h⟩:=h
  simp only[thaw]
  rcases h with⟨rfl,rfl,rfl,rfl⟩ | ⟨h1,ad,rfl,h3,rfl,⟨cc,T,h4,h5,h6⟩,h7⟩
  ·exact⟨.cons (.inl ⟨rfl,rfl⟩) .nil,fun β' _=>by simp only[Rep];exact⟨o,0,rfl, .inl (by simp)⟩⟩
  ·refine⟨.cons (.inr ⟨ad,rfl,h3,⟨cc,T,h4,h6⟩,h7⟩) .nil,fun β' hβ=>?_⟩
   have:=hβ 0 (some ad) (by simp)
   simp only[Rep]
   exact⟨_,c,rfl, .inr ⟨by simpa using h1,ad,by simpa using this,by cases ad;simp at h3;simp[aG,h3],⟨cc,T,(0,0),h4,by simpa using h5⟩⟩⟩
 | .oc cs,u,bl,id,h=>by
  simp only[dJ] at h
  obtain⟨o,c,rfl,h⟩:=h
  simp only[thaw]
  rcases h with⟨h1,rfl,h2,rfl⟩ | ⟨h1,ad,rfl,h3,rfl,⟨cc,T,h4,h5,h6⟩,h7⟩
  ·exact⟨.cons (.inl ⟨rfl,h2⟩) .nil,fun β' _=>by simp only[Rep];exact⟨o,0,rfl, .inl (by simp[h1])⟩⟩
  ·refine⟨.cons (.inr ⟨ad,rfl,h3,⟨cc,T,h4,h6⟩,h7⟩) .nil,fun β' hβ=>?_⟩
   have:=hβ 0 (some ad) (by simp)
   simp only[Rep]
   exact⟨_,c,rfl, .inr ⟨by simpa using h1,ad,by simpa using this,by cases ad;simp at h3;simp[aG,h3],⟨cc,T,(0,0),h4,by simpa using h5⟩⟩⟩
 | .agg cs,u,bl,id,h=>by
  simp only[dJ] at h
  obtain⟨vs,rfl,h⟩:=h
  have:=vF cs vs bl id h
  simp only[thaw]
  exact⟨this.1,fun β' hβ=>by simp only[Rep];exact⟨vs,rfl,this.2 β' hβ⟩⟩
 | .bF cs,u,bl,id,h=>by
  simp only[dJ] at h
  obtain⟨vs,rfl,h⟩:=h
  have:=vF cs vs bl id h
  simp only[thaw]
  exact⟨this.1,fun β' hβ=>by simp only[Rep];exact⟨vs,rfl,this.2 β' hβ⟩⟩
 | .undef,u,bl,id,h=>by simp only[dJ] at h;obtain⟨h1,rfl⟩:=h;exact⟨by simp only[thaw];exact .nil,fun β' _=>by simp only[thaw];exact aC.rep _ _ h1⟩
 | .v x,u,bl,id,h=>by simp only[dJ] at h;obtain⟨h1,rfl⟩:=h;exact⟨by simp only[thaw];exact .nil,fun β' _=>by simp only[thaw];exact aC.rep _ _ h1⟩
 | .sh n cs,u,bl,id,h=>by simp only[dJ] at h;obtain⟨h1,rfl⟩:=h;exact⟨by simp only[thaw];exact .nil,fun β' _=>by simp only[thaw];exact aC.rep _ _ h1⟩
 | .sl a b c e,u,bl,id,h=>by simp only[dJ] at h;obtain⟨h1,rfl⟩:=h;exact⟨by simp only[thaw];exact .nil,fun β' _=>by simp only[thaw];exact aC.rep _ _ h1⟩
 | .ptr a b,u,bl,id,h=>by simp only[dJ] at h;obtain⟨h1,rfl⟩:=h;exact⟨by simp only[thaw];exact .nil,fun β' _=>by simp only[thaw];exact aC.rep _ _ h1⟩
 | .emp,u,bl,id,h=>by simp only[dJ] at h;obtain⟨h1,rfl⟩:=h;exact⟨by simp only[thaw];exact .nil,fun β' _=>by simp only[thaw];exact aC.rep _ _ h1⟩
 | .rc a,u,bl,id,h=>by simp only[dJ] at h;obtain⟨h1,rfl⟩:=h;exact⟨by simp only[thaw];exact .nil,fun β' _=>by simp only[thaw];exact aC.rep _ _ h1⟩
 | .pel a b c d,u,bl,id,h=>by simp only[dJ] at h;obtain⟨h1,rfl⟩:=h;exact⟨by simp only[thaw];exact .nil,fun β' _=>by simp only[thaw];exact aC.rep _ _ h1⟩
 | .shp a b,u,bl,id,h=>by simp only[dJ] at h;obtain⟨h1,rfl⟩:=h;exact⟨by simp only[thaw];exact .nil,fun β' _=>by simp only[thaw];exact aC.rep _ _ h1⟩
 | .fn a b,u,bl,id,h=>by simp only[dJ] at h;obtain⟨h1,rfl⟩:=h;exact⟨by simp only[thaw];exact .nil,fun β' _=>by simp only[thaw];exact aC.rep _ _ h1⟩
theorem vF {w:World} {A:Nat→Prop}:∀ (ds:List D) (vs:List Value) (bl:List (Option Addr)) (id:Nat),iG w A ds vs bl→Bz w A (l9 id ds).2 bl∧∀ β':Env,(∀ k oa,bl[k]? =some oa→β' (id+k)=oa)→aF w A β' (l9 id ds).1 vs
 |[],vs,bl,id,h=>by
  simp only[iG] at h;obtain⟨rfl,rfl⟩:=h
  exact⟨by simp only[l9];exact .nil,fun _ _=>by simp[l9,aF]⟩
 |d::ds,vs,bl,id,h=>by
  simp only[iG] at h
  obtain⟨x,xs,b1,b2,rfl,rfl,h1,h2⟩:=h
  obtain⟨k1,k2⟩:=IY d x b1 id h1
  obtain⟨k3,k4⟩:=vF ds xs b2 (id+(thaw id d).2.length) h2
  simp only[l9]
  refine⟨k1.append k3,fun β' hβ=>?_⟩
  simp only[aF]
  refine⟨x,xs,rfl,k2 β' (fun k oa hk=>hβ k oa ?_),k4 β' (fun k oa hk=>?_)⟩
  ·rw[List.getElem?_append_left (List.getElem?_eq_some_iff.1 hk).1];exact hk
  ·have:=hβ (b1.length+k) oa (by rw[List.getElem?_append_right (by omega)];simpa using hk)
   rw[k1.length,Nat.add_assoc];exact this
end
section
variable {P:Program} {w:World} {A:Nat→Prop} {base:Nat} {tmps:Array Value} {acts:List (Array Value)}
theorem lI:∀ (bs:List (List D)) (bl:List (Option Addr)) (σ:St) (β:Env) (id:Nat),Rel w A β base σ tmps acts→Bz w A bs bl→
  (∀ ad,some ad∈bl→base≤ad.block∧¬ A ad.block∧∀ i a,σ.bk i≠none→β i=some a→a.block≠ad.block)→
  (bl.Pairwise fun x y=>∀ a b,x=some a→y=some b→a.block≠b.block)→
  ∃ β',Rel w A β' base (gY σ id bs) tmps acts∧(∀ k oa,bl[k]? =some oa→β' (id+k)=oa)∧∀ i,i<id→β' i=β i
 |[],bl,σ,β,id,h,hb,_,_=>by
  cases hb
  exact⟨β,h,fun k oa hk=>by simp at hk,fun _ _=>rfl⟩
 |c::cs,_,σ,β,id,h,hb,hfree,hpw=>by
  cases hb with
  |@cons _ oa _ bl h1 h2=>
  rw[List.pairwise_cons] at hpw
  have hr:=h.rebind (w':=w) id oa (.refl _ _) h.top (Nat.le_refl _) (.refl _) (fun _ _ _ _ _ _=>rfl)
  have hlive:∀ i a,i≠id→(σ.forget id).bk i≠none→(β.set id oa) i=some a→σ.bk i≠none∧β i=some a:=by
   intro i a hi hbk ha
   rw[Env.dG _ _ hi] at ha
   simp only[St.forget,if_neg hi] at hbk
   exact⟨fun e=>hbk (by simp[e]),ha⟩
  have hs:Rel w A (β.set id oa) base ((σ.forget id).setB id ⟨c,false⟩) tmps acts:=by
   refine hr.setB id _ ?_ ?_
   ·rcases h1 with⟨rfl,rfl⟩ | ⟨ad,rfl,h3,⟨cc,T,h4,h5⟩,h6⟩
    ·exact .inl (And.intro (Env.bU _ _ _) rfl)
    ·obtain⟨f1,f2,_⟩:=hfree ad (by simp)
     exact .inr ⟨ad,Env.bU _ _ _,⟨h3,f1,⟨cc,T,h4⟩,bC.tK (fun d u h=>aC.rep d u h) h6,fun _=>f2,fun e=>(by cases e),fun c1 T1 h7=>by rw[h4] at h7;cases h7;exact h5⟩⟩
   ·intro i a ad hi hbk ha had
    rw[Env.bU] at had
    subst had
    obtain⟨g1,g2⟩:=hlive i a hi hbk ha
    exact(hfree ad (by simp)).2.2 i a g1 g2
  obtain⟨β',k1,k2,k3⟩:=lI cs bl _ _ (id+1) hs h2 (fun ad had=>by
   obtain⟨f1,f2,f3⟩:=hfree ad (by simp[had])
   refine⟨f1,f2,fun i a hbk ha=>?_⟩
   by_cases hi:i=id
   ·subst hi
    rw[Env.bU] at ha
    exact hpw.1 (some ad) had a ad ha rfl
   ·obtain⟨g1,g2⟩:=hlive i a hi (by simpa [St.setB,hi] using hbk) ha
    exact f3 i a g1 g2) hpw.2
  refine⟨β',k1,fun k oa' hk=>?_,fun i hi=>?_⟩
  ·cases k with
   |zero=>simp at hk;subst hk;rw[Nat.add_zero,k3 id (by omega),Env.bU]
   |succ k=>rw[←Nat.add_assoc,Nat.add_right_comm];exact k2 k oa' (by simpa using hk)
  ·rw[k3 i (by omega),Env.dG _ _ (by omega)]
end
def St.eU (σ:St) (ids:List Nat):St:={ σ with bk:=fun i=>if i∈ids then(σ.bk i).map fun b=>{ b with ro:=true } else σ.bk i }
section
variable {P:Program} {w:World} {A:Nat→Prop} {β:Env} {base:Nat} {σ:St} {tmps:Array Value} {acts:List (Array Value)}
theorem Rel.eU (h:Rel w A β base σ tmps acts) (ids:List Nat) {A':Nat→Prop} (hA:∀ k,A k→A' k) (low:∀ k,A' k→k<w.heap.size)
  (hin:∀ i∈ids,NU σ β A' i) (hout:∀ i b ad,i∉ids→σ.bk i=some b→β i=some ad→A' ad.block→A ad.block) (hlp:gK w A' β base σ.loop acts):Rel w A' β base (σ.eU ids) tmps acts where
 fr:=h.fr.mono (.refl _ _) hA (fun _ _ _=>rfl)
 stk:=h.stk.mono (.refl _ _) hA (fun _ _ _ _ _=>rfl)
 blk:=fun i b hb=>by
  simp only[St.eU] at hb
  split at hb
  next hi=>
   simp only[Option.map_eq_some_iff] at hb
   obtain⟨b0,hb0,rfl⟩:=hb
   rcases h.blk i b0 hb0 with⟨h1,h2⟩ | ⟨ad,h1,h2⟩
   ·exact .inl ⟨h1,h2⟩
   ·exact .inr ⟨ad,h1,⟨h2.spot,h2.base,h2.obj,aZ.mono (.refl _ _) hA _ _ rfl (fun _ _=>rfl) h2.cells,(fun e=>by cases e),fun _=>hin i hi b0 ad hb0 h1,h2.inside⟩⟩
  next hi=>
   rcases h.blk i b hb with⟨h1,h2⟩ | ⟨ad,h1,h2⟩
   ·exact .inl ⟨h1,h2⟩
   ·exact .inr ⟨ad,h1,⟨h2.spot,h2.base,h2.obj,aZ.mono (.refl _ _) hA _ _ rfl (fun _ _=>rfl) h2.cells,fun hr ha=>h2.own hr (hout i b ad hi hb h1 ha),fun hr=>hA _ (h2.shared hr),h2.inside⟩⟩
 inj:=fun i j a b hi hj=>h.inj i j a b (fun e=>hi (by simp only[St.eU];split<;>simp[e])) (fun e=>hj (by simp only[St.eU];split<;>simp[e]))
 low:=low
 top:=h.top
 glo:=h.glo.grow hA
 lp:=hlp
end
def depth:Nat:=12
def WQ (F:FuncId→List D→D→Prop) (σ:St) (dst:Option Tmp) (id:Nat) (f:FuncId) (args:List D) (σ':St):Prop:=
 ∃ as passed res,aN (share σ.bk depth) args=some (as,passed)∧F f as res∧σ'=(gY (if flat res then σ else σ.eU passed) id (thaw id res).2).put dst (thaw id res).1
section
variable {P:Program} {w:World} {A:Nat→Prop} {β:Env} {base:Nat} {σ:St} {a:Act} {acts:List (Array Value)}
theorem O5 {F:FuncId→List D→D→Prop} (hF:∀ f as res,F f as res→CallsD P f as res) (hrel:Rel w A β base σ a.tmps acts) {dst:Option Tmp} {id:Nat} {f:FuncId} {args:List D} {vs:List Value}
    (hargs:aF w A β args vs) {σ':St} (h:WQ F σ dst id f args σ'):
    Calls P f vs.toArray w fun e w'=>∃ v A' β',e= .returned v∧Rel w' A' β' base σ' (a.put dst v).tmps acts∧Turn A A' base w w':=by
  obtain⟨as,passed,res,hsh,hres,rfl⟩:=h
  · ·
      let A1:Nat→Prop:=fun k=>A k∨∃ i∈passed,∃ b ad,σ.bk i=some b∧β i=some ad∧ad.block=k
      have hA1:∀ k,A k→A1 k:=fun k h=> .inl h
      have hlow1:∀ k,A1 k→k<w.heap.size:=by
        rintro k (hk | ⟨i,_,b,ad,hb,ha,rfl⟩)
        · exact hrel.low k hk
        · exact nG hrel hb ha
      have has:dD w A1 as vs:=kL (ok:=fun i=>NU σ β A1 i) (fun d e ids u h1 h2 h3=>o5 hrel hA1 depth d e ids u h1 h2 h3) args as passed vs hsh
        (fun i hi b ad hb ha=> .inr ⟨i,hi,b,ad,hb,ha,rfl⟩) hargs
      refine(hF f as res hres w A1 vs has hlow1 (hrel.glo.grow hA1)).mono ?_
      rintro e w' ⟨v,A',bl,rfl,hO,hfresh,hA',hlow',hold,hbelow⟩
      have hx:Ext A w w':=⟨fun k hk=>hbelow.block k (hrel.low k hk),fun b m ⟨c,T,fz,h1,h2⟩=>⟨c,T,fz,by
        have:b<w.heap.size:=by
          rcases Nat.lt_or_ge b w.heap.size with h | h
          · exact h
          · rw[Array.getElem?_eq_none h] at h1;cases h1
        rw[hbelow.block b this];exact h1,h2⟩⟩
      have hcar:Rel w' A β base σ a.tmps acts:=hrel.carry hx (fun _ h=>h) (fun k hk=>Nat.lt_of_lt_of_le (hrel.low k hk) hbelow.size) (Nat.le_trans hrel.top hbelow.size) (fun _ _ _=>rfl) (fun _ _ _ _ _=>rfl)
        (fun i b hb=>⟨rfl,fun _ _=>rfl,fun ad ha=>⟨hbelow.block _ (nG hrel hb ha),fun h=>h⟩⟩) (hrel.lp.mono (.below hbelow) (.refl _ _) (fun _=>rfl))
      have hblk:∀ i b ad,σ.bk i=some b→β i=some ad→ad.block<w.heap.size:=fun i b ad hb ha=>nG hrel hb ha
      have hfin:∃ A2,Rel w' A2 β base (if flat res then σ else σ.eU passed) a.tmps acts∧dJ w' A2 res v bl∧(∀ k,A k→A2 k)∧(∀ ad,some ad∈bl→¬ A2 ad.block)∧(∀ k,A2 k→k<base→A k)∧New A A2 w:=by
        by_cases hfl:flat res=true
        · rw[if_pos hfl]
          exact⟨A,hcar,Ja res v bl hfl hO,fun _ h=>h,fun ad had ha=>(hfresh.each ad had).2.2 (hA' _ (hA1 _ ha)),fun _ h _=>h, .refl _ _⟩
        · rw[if_neg hfl]
          have hnew:New A A' w:=by
            intro k o hk ho ha
            rcases hold k ha (Array.getElem?_eq_some_iff.1 hk).1 with h1 | ⟨j,hj,b',ad',hb',ha',rfl⟩
            · exact h1
            · rcases hrel.blk j b' hb' with⟨q1,_⟩ | ⟨a3,q1,q2⟩
              · rw[ha'] at q1;cases q1
              · rw[ha'] at q1;cases q1
                obtain⟨c,T,hobj⟩:=q2.obj
                rw[hobj] at hk;cases hk;cases ho
          refine⟨A',?_,hO,fun k hk=>hA' k (hA1 k hk),fun ad had=>(hfresh.each ad had).2.2,?_,hnew⟩
          refine hcar.eU passed (fun k hk=>hA' k (hA1 k hk)) hlow' ?_ ?_ (hrel.lp.mono (.below hbelow) hnew (fun _=>rfl))
          · intro i hi b ad hb ha
            exact hA' _ (.inr ⟨i,hi,b,ad,hb,ha,rfl⟩)
          · intro i b ad hi hb ha hin
            rcases hold _ hin (hblk i b ad hb ha) with h1 | ⟨j,hj,b',ad',hb',ha',he⟩
            · exact h1
            · exact absurd (hrel.inj j i ad' ad (by simp[hb']) (by simp[hb]) ha' ha he▸hj) hi
          · intro k hk hlt
            rcases hold k hk (Nat.lt_of_lt_of_le hlt hrel.top) with h1 | ⟨j,hj,b',ad',hb',ha',rfl⟩
            · exact h1
            · rcases hrel.blk j b' hb' with⟨q1,_⟩ | ⟨a3,q1,q2⟩
              · rw[ha'] at q1;cases q1
              · rw[ha'] at q1;cases q1
                have:=q2.base
                omega
      obtain⟨A2,hr2,hO2,hA2,hne,hold2,hnew2⟩:=hfin
      obtain⟨t1,t2⟩:=IY res v bl id hO2
      have hbk2:∀ i,(if flat res then σ else σ.eU passed).bk i≠none→σ.bk i≠none:=by
        intro i h e
        apply h
        split
        · exact e
        · simp only[St.eU];split<;>simp[e]
      obtain⟨β',k1,k2,k3⟩:=lI _ bl _ β id hr2 t1 (fun ad had=>by
        obtain⟨f1,f2,f3⟩:=hfresh.each ad had
        refine⟨Nat.le_trans hrel.top f1,hne ad had,fun i a2 hbk ha=>?_⟩
        obtain⟨b,hb⟩:=Option.ne_none_iff_exists'.1 (hbk2 i hbk)
        have:=hblk i b a2 hb ha
        omega) hfresh.apart
      exact⟨v,A2,β',rfl,k1.oJ dst (t2 β' k2),⟨hx,hA2,hbelow.mono hrel.top,hold2, .strict (.below hbelow) hnew2⟩⟩
end
end Go.Dam
end

section
namespace Go.Dam
open Go Go.RowKit
variable [gB]
structure Unused (id:Nat) (σ:St):Prop where
 fr:∀ t,(σ.fr.tm t).has id=false
 stk:∀ f∈σ.stk,∀ t,(f.tm t).has id=false
 no:σ.bk id=none
 bk:∀ i b,σ.bk i=some b→D.bQ id b.cells=false
 lp:id=dI→σ.loop=none
def St.dO (σ:St) (id:Nat):St:={ σ with bk:=fun i=>if i=id then none else σ.bk i }
section
variable {P:Program} {w:World} {A:Nat→Prop} {β:Env} {base:Nat} {σ:St} {acts:List (Array Value)}
theorem Rel.rename {tmps:Array Value} (h:Rel w A β base σ tmps acts) {i z:Nat} {b:dR} (hb:σ.bk i=some b) (hz:Unused z σ):
  Rel w A (β.set z (β i)) base ((σ.dO i).setB z b) tmps acts:=by
 have hiz:i≠z:=fun e=>by rw[e,hz.no] at hb;cases hb
 have h1:Rel w A (β.set z (β i)) base σ tmps acts:=by
  refine h.carry (.refl _ _) (fun _ h=>h) h.low h.top ?_ ?_ ?_ (h.lp.mono (fun _ _ h _=>h) (fun _ _ _ _ h=>h) fun hne=>Env.dG _ _ fun e=>hne (hz.lp e.symm))
  ·intro t j hj
   exact Env.dG _ _ fun e=>by rw[e,hz.fr t] at hj;cases hj
  ·intro f hf t j hj
   exact Env.dG _ _ fun e=>by rw[e,hz.stk f hf t] at hj;cases hj
  ·intro j c hj
   refine⟨Env.dG _ _ fun e=>(by rw[e,hz.no] at hj;cases hj),fun l hl=>Env.dG _ _ fun e=>(by rw[e,hz.bk j c hj] at hl;cases hl),fun ad _=>⟨rfl,fun x=>x⟩⟩
 have hi:(β.set z (β i)) i=β i:=Env.dG _ _ hiz
 have hzz:(β.set z (β i)) z=β i:=Env.bU _ _ _
 refine⟨h1.fr,h1.stk,?_,?_,h1.low,h1.top,h1.glo,h1.lp⟩
 ·intro j c hj
  simp only[St.setB,St.dO] at hj
  split at hj
  next e=>
   subst e
   simp only[Option.some.injEq] at hj;subst hj
   have:=h1.blk i _ hb
   rw[hi] at this;rw[hzz];exact this
  next e=>
   split at hj
   ·cases hj
   ·exact h1.blk j c hj
 ·intro j k a c hj hk ha hc he
  simp only[St.setB,St.dO] at hj hk
  have key:∀ {j:Nat} {a:Addr},(if j=z then some b else if j=i then none else σ.bk j)≠none→(β.set z (β i)) j=some a→∃ j',σ.bk j'≠none∧(β.set z (β i)) j'=some a∧(j=z∧j'=i∨j≠z∧j≠i∧j'=j):=by
   intro j a hj ha
   by_cases e:j=z
   ·refine⟨i,by rw[hb];simp,?_, .inl ⟨e,rfl⟩⟩
    rw[e,hzz] at ha;rw[hi];exact ha
   ·rw[if_neg e] at hj
    by_cases e2:j=i
    ·rw[if_pos e2] at hj;exact absurd rfl hj
    ·rw[if_neg e2] at hj
     exact⟨j,hj,ha, .inr ⟨e,e2,rfl⟩⟩
  obtain⟨j',a1,a2,a3⟩:=key hj ha
  obtain⟨k',b1,b2,b3⟩:=key hk hc
  have e:=h1.inj j' k' a c a1 b1 a2 b2 he
  rcases a3 with⟨x1,x2⟩ | ⟨x1,x2,x3⟩<;>rcases b3 with⟨y1,y2⟩ | ⟨y1,y2,y3⟩
  ·rw[x1,y1]
  ·exact absurd (by rw[←y3,←e,x2]) y2
  ·exact absurd (by rw[←x3,e,y2]) x2
  ·rw[←x3,e,y3]
theorem aF.env {β':Env}:∀ {ds:List D} {vs:List Value},(∀ id,D.bQ id ds=true→β' id=β id)→aF w A β ds vs→aF w A β' ds vs:=fun h hr=>
 aF.mono (.of_heap rfl) (fun _ h=>h) _ _ h hr
theorem uU {d:D} {z:Nat} (h:d.has z=false):d.forget z=d:=by
 unfold D.forget;rw[if_neg (by rw[h];simp)]
end
theorem Ip {id:Nat} {cs:List D} (h:D.bQ id cs=false):∀ d∈cs,d.has id=false:=by
 induction cs with
 |nil=>intro d hd;cases hd
 |cons c l ih=>
  intro d hd
  simp only[D.bQ,Bool.or_eq_false_iff] at h
  rcases List.mem_cons.1 hd with rfl | hd
  ·exact h.1
  ·exact ih h.2 d hd
theorem Eh {cs:List D} {id:Nat} (h:D.bQ id cs=false):cs.map (D.forget id)=cs:=by
 have:cs.map (D.forget id)=cs.map _root_.id:=List.map_congr_left fun d hd=>uU (Ip h d hd)
 rw[this];simp
def St.grown (σ:St) (dst:Option Tmp) (i z n m s:Nat) (cs:List D):St:=((σ.dO i).setB z ⟨cs,false⟩).put dst (.sl z 0 (n+m) ⟨s,0⟩)
theorem FO {σ:St} {i z:Nat} {b:dR} (hz:Unused z σ) (c:dR):((((σ.dO i).setB z b).forget z).setB z c)=(σ.dO i).setB z c:=by
 have hf:∀ f:Fr,(∀ t,(f.tm t).has z=false)→f.forget z=f:=fun f hf=>by
  cases f with
  |mk nt tm=>simp only[Fr.forget,Fr.mk.injEq,true_and];funext t;exact uU (hf t)
 have h1:σ.fr.forget z=σ.fr:=hf _ hz.fr
 have h2:σ.stk.map (Fr.forget z)=σ.stk:=by
  have:σ.stk.map (Fr.forget z)=σ.stk.map _root_.id:=List.map_congr_left fun f hf'=>hf f (hz.stk f hf')
  rw[this];simp
 have h3:(if z=dI then none else σ.loop)=σ.loop:=by
  split
  ·next e=>exact(hz.lp e).symm
  ·rfl
 simp only[St.forget,St.setB,St.dO,h1,h2,h3,St.mk.injEq,true_and,and_true]
 funext j
 by_cases e:j=z
 ·simp[e]
 ·simp only[if_neg e]
  by_cases e2:j=i
  ·simp[e2]
  ·simp only[if_neg e2]
   cases hb:σ.bk j with
   |none=>rfl
   |some x=>
    cases x with
    |mk cs ro=>simp only[Option.map_some,dR.forget];rw[Eh (hz.bk j _ hb)]
section
variable {P:Program} {w:World} {A:Nat→Prop} {β:Env} {base:Nat} {σ:St} {a:Act} {acts:List (Array Value)}
theorem PV (hrel:Rel w A β base σ a.tmps acts) {o:Oper} {r:Result Next} (hr:(execOp a.eval o).run P w=r) {i n m s z:Nat} {sz:Sz} {ds cells:List D} (hE:Good P w A β r (.app (.sl i 0 n sz) s m ds))
  (hb:σ.bk i=some ⟨cells,false⟩) (hl:n*s≤cells.length) (hz:Unused z σ) (hd:D.bQ z (cells.take (n*s) ++ ds)=false):
  ∃ u w' β',((execOp a.eval o).run P w= .ok (.value u) w'∨((execOp a.eval o).run P w= .ok .skip w'∧u=undef))∧Rel w' A β' base (σ.grown o.dst i z n m s (cells.take (n*s) ++ ds)) (a.put o.dst u).tmps acts∧Turn A A base w w':=by
 have h1:=hrel.rename hb hz
 refine wF (e:= .app (.sl z 0 n sz) s m ds) h1 hr ?_ (id:=0) ?_
 ·obtain⟨t,t2,ty,e,e2,inf,zz,oo,nn,c,x,vs,p1,p2,p3,p4,p5,p6,p7,p8,p9,p10,p11,p12,p13,p14,p15,p16⟩:=hE
  have hiz:i≠z:=fun e=>by rw[e,hz.no] at hb;cases hb
  refine⟨t,t2,ty,e,e2,inf,zz,oo,nn,c,x,vs,p1,p2,p3,p4,p5,p6,p7,p8,?_,p10,p11,p12,?_,?_,?_,p16⟩
  ·refine aF.env (fun id hid=>Env.dG _ _ fun e=>?_) p9
   subst e
   have:D.bQ id ds=false:=by
    cases hq:D.bQ id ds with
    |false=>rfl
    |true=>
     have:=Ip hd
     exfalso
     have hall:∀ l:List D,(∀ d∈l,d.has id=false)→D.bQ id l=false:=fun l=>by
      induction l with
      |nil=>intro _;rfl
      |cons c l ih=>intro h;simp only[D.bQ,Bool.or_eq_false_iff];exact⟨h c (by simp),ih fun d hd=>h d (by simp[hd])⟩
     rw[hall ds fun d hd=>this d (by simp[hd])] at hq;cases hq
   rw[this] at hid;cases hid
  ·simp only[Rep] at p13 ⊢
   obtain⟨o,c,e,h⟩:=p13
   refine⟨o,c,e,?_⟩
   rw[Env.bU];exact h
  ·intro id off n' sz' he
   simp only[D.sl.injEq] at he
   obtain⟨_,_,_,rfl⟩:=he
   exact p14 i 0 n sz rfl
  ·intro u he;cases he
 ·simp only[dK,St.setB,if_true]
  rw[if_pos (by simpa using hl)]
  simp only[List.drop_zero,Option.some.injEq]
  rw[Eh hd]
  show(((((σ.dO i).setB z ⟨cells,false⟩).forget z).setB z _).put _ _)=_
  rw[FO hz];rfl
end
end Go.Dam
end
