/- The engine: an abstract machine for the program's functions, proved right against the model. No condition. -/
import Derived.Test.YtfoelbdkgaliaaaDamRB
set_option linter.unusedSectionVars false
set_option linter.unusedVariables false
set_option linter.unusedSimpArgs false
section
namespace Go.Dam
open Go Go.RowKit
variable [gB]
def fin (bk:Nat→Option dR):D→Option (D×List Nat×List Nat)
 | .undef=>some (.undef,[],[])
 | .v x=>some (.v x,[],[])
 | .sh n cs=>some (.sh n cs,[],[])
 | .rc cs=>some (.rc cs,[],[])
 | .emp=>some (.emp,[],[])
 | .sl id off n sz=>match bk id with
  |none=>none
  |some b=>if off+n*sz≤b.cells.length∧b.ro=false then
    match aN (share bk depth) ((b.cells.drop off).take (n*sz)) with
    |none=>none
    |some (cs,ids)=>some (.ow n sz cs,ids,[id])
   else none
 | .agg cs=>match finL cs with
  |none=>none
  |some (ds,i,j)=>some (.agg ds,i,j)
 | .bF cs=>match finL cs with
  |none=>none
  |some (ds,i,j)=>some (.bF ds,i,j)
 |_=>none
where
 finL:List D→Option (List D×List Nat×List Nat)
 |[]=>some ([],[],[])
 |d::ds=>match fin bk d,finL ds with
  |some (e,i,j),some (es,is,js)=>some (e::es,i ++ is,j ++ js)
  |_,_=>none
def Reads (e e':D):Prop:=∀ (w:World) (A:Nat→Prop) (u:Value),aC w A e u→aC w A e' u
theorem Reads.refl (e:D):Reads e e:=fun _ _ _ h=>h
inductive gu:List D→List D→Prop
 |nil:gu [] []
 |cons {d e:D} {ds es:List D}:Reads d e→gu ds es→gu (d::ds) (e::es)
theorem gu.length {ds es:List D} (h:gu ds es):ds.length=es.length:=by
 induction h with
 |nil=>rfl
 |cons _ _ ih=>simp[ih]
theorem gu.RV {ds es:List D} (h:gu ds es):ds=[]↔es=[]:=by
 cases h<;>simp
theorem gu.refl:∀ ds:List D,gu ds ds
 |[]=> .nil
 |d::ds=> .cons (.refl d) (.refl ds)
theorem gu.aas {ds es:List D} (h:gu ds es) {w:World} {A:Nat→Prop} {vs:List Value} (hr:dD w A ds vs):dD w A es vs:=by
 induction h generalizing vs with
 |nil=>exact hr
 |cons h1 _ ih=>
  simp only[dD] at hr ⊢
  obtain⟨x,xs,rfl,k1,k2⟩:=hr
  exact⟨x,xs,rfl,h1 _ _ _ k1,ih k2⟩
theorem gu.acp {ds es:List D} (h:gu ds es) {w:World} {A:Nat→Prop} {ad:Addr} (hr:bC w A ds ad):bC w A es ad:=by
 induction h generalizing ad with
 |nil=>exact hr
 |cons h1 _ ih=>
  simp only[bC] at hr ⊢
  obtain⟨⟨u,k1,k2⟩,k3⟩:=hr
  exact⟨⟨u,k1,h1 _ _ _ k2⟩,ih k3⟩
theorem gu.agg {ds es:List D} (h:gu ds es):Reads (.agg ds) (.agg es):=fun w A u hr=>by
 simp only[aC] at hr ⊢
 obtain⟨vs,rfl,hr⟩:=hr
 exact⟨vs,rfl,h.aas hr⟩
theorem gu.sh {ds es:List D} (h:gu ds es) (n:Nat):Reads (.sh n ds) (.sh n es):=fun w A u hr=>by
 simp only[aC] at hr ⊢
 obtain⟨o,c,rfl,h1,h2,h3⟩:=hr
 exact⟨o,c,rfl,h1,fun hne=>h2 (hne.imp id fun hne e=>hne (h.RV.1 e)),h.acp h3⟩
section
variable {P:Program} {w:World} {A:Nat→Prop} {β:Env} {base:Nat} {σ:St} {tmps:Array Value} {acts:List (Array Value)}
inductive jw (w:World) (σ:St) (β:Env):List Nat→List (Option Addr)→Prop
 |nil:jw w σ β [] []
 |gap {id:Nat} {ids:List Nat} {bl:List (Option Addr)}:jw w σ β ids bl→jw w σ β (id::ids) (none::bl)
 |lies {id:Nat} {ids:List Nat} {bl:List (Option Addr)} {ad:Addr} {off:Nat} {b:dR}:σ.bk id=some b→b.ro=false→β id=some ad→jw w σ β ids bl→jw w σ β (id::ids) (some (aG ad off)::bl)
theorem jw.append {ids js:List Nat} {bl bm:List (Option Addr)} (h:jw w σ β ids bl) (k:jw w σ β js bm):jw w σ β (ids ++ js) (bl ++ bm):=by
 induction h with
 |nil=>exact k
 |gap _ ih=>exact .gap ih
 |lies h1 h2 h3 _ ih=>exact .lies h1 h2 h3 ih
theorem jw.mem {ids:List Nat} {bl:List (Option Addr)} (h:jw w σ β ids bl):∀ a,some a∈bl→∃ id∈ids,∃ b ad,σ.bk id=some b∧b.ro=false∧β id=some ad∧a.block=ad.block:=by
 induction h with
 |nil=>intro a h;cases h
 |gap _ ih=>
  intro a h
  simp at h
  obtain⟨id,h1,h2⟩:=ih a h
  exact⟨id,by simp[h1],h2⟩
 |@lies id ids bl ad off b h1 h2 h3 _ ih=>
  intro a h
  simp only[List.mem_cons,Option.some.injEq] at h
  rcases h with rfl | h
  ·exact⟨id,by simp,b,ad,h1,h2,h3,rfl⟩
  ·obtain⟨i,k1,k2⟩:=ih a h
   exact⟨i,by simp[k1],k2⟩
theorem jw.apart (hrel:Rel w A β base σ tmps acts) {ids:List Nat} {bl:List (Option Addr)} (h:jw w σ β ids bl) (hn:ids.Nodup):bl.Pairwise fun x y=>∀ a b,x=some a→y=some b→a.block≠b.block:=by
 induction h with
 |nil=>exact .nil
 |gap _ ih=>rw[List.nodup_cons] at hn;exact .cons (fun _ _ a b h=>by cases h) (ih hn.2)
 |@lies id ids bl ad off b h1 h2 h3 ht ih=>
  rw[List.nodup_cons] at hn
  refine .cons (fun y hy a b' ha hb'=>?_) (ih hn.2)
  cases ha
  subst hb'
  obtain⟨i,k1,b2,ad2,k2,k3,k4,k5⟩:=ht.mem b' hy
  rw[k5]
  intro e
  have:id=i:=hrel.inj id i ad ad2 (by simp[h1]) (by simp[k2]) h3 k4 e
  exact hn.1 (this▸k1)
mutual
theorem LM (hrel:Rel w A β base σ tmps acts) {A':Nat→Prop} (hA:∀ k,A k→A' k):∀ (d e:D) (sh own:List Nat) (u:Value),fin σ.bk d=some (e,sh,own)→(∀ i∈sh,NU σ β A' i)→Rep w A β d u→
  ∃ bl,dJ w A' e u bl∧jw w σ β own bl
 | .undef,e,sh,own,u,h,_,hr=>by simp[fin] at h;obtain⟨rfl,rfl,rfl⟩:=h;exact⟨[],by simp[dJ,aC], .nil⟩
 | .v x,e,sh,own,u,h,_,hr=>by simp[fin] at h;obtain⟨rfl,rfl,rfl⟩:=h;simp only[Rep,aC] at hr;exact⟨[],by simp[dJ,aC,hr], .nil⟩
 | .sh n cs,e,sh,own,u,h,_,hr=>by
  simp[fin] at h;obtain⟨rfl,rfl,rfl⟩:=h
  simp only[Rep] at hr
  exact⟨[],by simp only[dJ];exact⟨aC.mono (fun _ _=>rfl) hA _ _ hr,trivial⟩, .nil⟩
 | .emp,e,sh,own,u,h,_,hr=>by
  simp[fin] at h;obtain⟨rfl,rfl,rfl⟩:=h
  simp only[Rep] at hr
  exact⟨[],by simp only[dJ];exact⟨aC.mono (fun _ _=>rfl) hA _ _ hr,trivial⟩, .nil⟩
 | .rc cs,e,sh,own,u,h,_,hr=>by
  simp[fin] at h;obtain⟨rfl,rfl,rfl⟩:=h
  simp only[Rep] at hr
  exact⟨[],by simp only[dJ];exact⟨aC.mono (fun _ _=>rfl) hA _ _ hr,trivial⟩, .nil⟩
 | .sl id off n sz,e,sh,own,u,h,hk,hr=>by
  simp only[fin] at h
  split at h
  ·cases h
  next b hb=>
   split at h
   next hl=>
    split at h
    ·cases h
    next cs ids h1=>
     simp at h;obtain⟨rfl,rfl,rfl⟩:=h
     simp only[Rep] at hr
     obtain⟨o,c,rfl,hr⟩:=hr
     have hcl:=kW _ _ _ h1
     rcases hr with⟨hn0,rfl⟩ | ⟨hnr,ad,hβ,rfl,cc,T,fz,hob,hroom⟩
     ·obtain rfl:n=0:=by omega
      have:cs=[]:=List.length_eq_zero_iff.1 (by rw[hcl];simp)
      subst this
      exact⟨[none],by simp only[dJ];exact⟨o,0,rfl, .inl (by simp)⟩, .gap .nil⟩
     ·rcases hrel.blk id b hb with⟨h2,_⟩ | ⟨ad',h2,h3⟩
      ·rw[hβ] at h2;cases h2
      ·rw[hβ] at h2;cases h2
       obtain⟨c2,T2,hob2⟩:=h3.obj
       rw[hob2] at hob;cases hob
       refine⟨[some (aG ad off)],?_, .lies hb hl.2 hβ .nil⟩
       simp only[dJ]
       refine⟨_,c,rfl, .inr ⟨by omega,_,rfl,rfl,rfl,⟨_,_,hob2,by simpa using hroom,by simp;omega⟩,?_⟩⟩
       exact sK (ok:=fun i=>NU σ β A' i) (fun d e ids u h1 h2 h3=>o5 hrel hA depth d e ids u h1 h2 h3) _ _ _ _ h1 hk ((h3.cells.drop h3.spot off).take rfl _)
   ·cases h
 | .agg cs,e,sh,own,u,h,hk,hr=>by
  simp only[fin] at h
  split at h
  ·cases h
  next ds i j h1=>
   simp at h;obtain⟨rfl,rfl,rfl⟩:=h
   simp only[Rep] at hr
   obtain⟨vs,rfl,hr⟩:=hr
   obtain⟨bl,k1,k2⟩:=zA hrel hA cs ds i j vs h1 hk hr
   exact⟨bl,by simp only[dJ];exact⟨vs,rfl,k1⟩,k2⟩
 | .bF cs,e,sh,own,u,h,hk,hr=>by
  simp only[fin] at h
  split at h
  ·cases h
  next ds i j h1=>
   simp at h;obtain⟨rfl,rfl,rfl⟩:=h
   simp only[Rep] at hr
   obtain⟨vs,rfl,hr⟩:=hr
   obtain⟨bl,k1,k2⟩:=zA hrel hA cs ds i j vs h1 hk hr
   exact⟨bl,by simp only[dJ];exact⟨vs,rfl,k1⟩,k2⟩
 | .ow _ _ _,e,sh,own,u,h,_,_=>by simp[fin] at h
 | .ptr _ _,e,sh,own,u,h,_,_=>by simp[fin] at h
 | .pel _ _ _ _,e,sh,own,u,h,_,_=>by simp[fin] at h
 | .oc _,e,sh,own,u,h,_,_=>by simp[fin] at h
 | .shp _ _,e,sh,own,u,h,_,_=>by simp[fin] at h
 | .fn _ _,e,sh,own,u,h,_,_=>by simp[fin] at h
theorem zA (hrel:Rel w A β base σ tmps acts) {A':Nat→Prop} (hA:∀ k,A k→A' k):∀ (ds es:List D) (sh own:List Nat) (vs:List Value),fin.finL σ.bk ds=some (es,sh,own)→(∀ i∈sh,NU σ β A' i)→aF w A β ds vs→
  ∃ bl,iG w A' es vs bl∧jw w σ β own bl
 |[],es,sh,own,vs,h,_,hr=>by
  simp[fin.finL] at h;obtain⟨rfl,rfl,rfl⟩:=h
  simp[aF] at hr
  exact⟨[],by simp[iG,hr], .nil⟩
 |d::ds,es,sh,own,vs,h,hk,hr=>by
  simp only[fin.finL] at h
  split at h
  next e i j es' is js h1 h2=>
   simp at h;obtain⟨rfl,rfl,rfl⟩:=h
   simp only[aF] at hr
   obtain⟨x,xs,rfl,r1,r2⟩:=hr
   obtain⟨b1,k1,k2⟩:=LM hrel hA d e i j x h1 (fun z hz=>hk z (by simp[hz])) r1
   obtain⟨b2,k3,k4⟩:=zA hrel hA ds es' is js xs h2 (fun z hz=>hk z (by simp[hz])) r2
   exact⟨b1 ++ b2,by simp only[iG];exact⟨x,xs,b1,b2,rfl,rfl,k1,k3⟩,k2.append k4⟩
  ·cases h
end
theorem dD.DN {A':Nat→Prop}:∀ (cs:List D) (vs:List Value),(∀ d∈cs,∀ u,aC w A' d u→dJ w A' d u [])→dD w A' cs vs→iG w A' cs vs []
 |[],vs,_,h=>by simp only[dD] at h;simp[iG,h]
 |d::ds,vs,hd,h=>by
  simp only[dD] at h
  obtain⟨x,xs,rfl,h1,h2⟩:=h
  simp only[iG]
  exact⟨x,xs,[],[],rfl,rfl,hd d (by simp) x h1,dD.DN ds xs (fun e he=>hd e (by simp[he])) h2⟩
mutual
theorem aC.Po {A':Nat→Prop}:∀ (d:D) (u:Value),aC w A' d u→dJ w A' d u []
 | .undef,_,h=>by simp only[dJ];exact⟨h,trivial⟩
 | .v _,_,h=>by simp only[dJ];exact⟨h,trivial⟩
 | .sh _ _,_,h=>by simp only[dJ];exact⟨h,trivial⟩
 | .shp _ _,_,h=>by simp only[dJ];exact⟨h,trivial⟩
 | .rc _,_,h=>by simp only[dJ];exact⟨h,trivial⟩
 | .oc _,_,h=>by simp[aC] at h
 | .pel _ _ _ _,_,h=>by simp[aC] at h
 | .emp,_,h=>by simp only[dJ];exact⟨h,trivial⟩
 | .fn _ _,_,h=>by simp only[dJ];exact⟨h,trivial⟩
 | .ow _ _ _,_,h=>by simp[aC] at h
 | .sl _ _ _ _,_,h=>by simp[aC] at h
 | .ptr _ _,_,h=>by simp[aC] at h
 | .agg cs,u,h=>by
  simp only[aC] at h
  obtain⟨vs,rfl,h⟩:=h
  simp only[dJ];exact⟨vs,rfl,dD.Po cs vs h⟩
 | .bF cs,u,h=>by
  simp only[aC] at h
  obtain⟨vs,rfl,h⟩:=h
  simp only[dJ];exact⟨vs,rfl,dD.Po cs vs h⟩
theorem dD.Po {A':Nat→Prop}:∀ (cs:List D) (vs:List Value),dD w A' cs vs→iG w A' cs vs []
 |[],vs,h=>by simp only[dD] at h;simp[iG,h]
 |d::ds,vs,h=>by
  simp only[dD] at h
  obtain⟨x,xs,rfl,h1,h2⟩:=h
  simp only[iG]
  exact⟨x,xs,[],[],rfl,rfl,aC.Po d x h1,dD.Po ds xs h2⟩
end
inductive Rn (bk:Nat→Option dR) (d e:D):Prop
 |own {sh own:List Nat}:fin bk d=some (e,sh,own)→own.Nodup→(own.all fun i=>!sh.contains i)=true→Rn bk d e
 |shared {sh:List Nat} {e0:D}:share bk depth d=some (e0,sh)→Reads e0 e→Rn bk d e
 |sharedT {sh:List Nat} {cs ds es:List D}:d= .bF cs→aN (share bk depth) cs=some (ds,sh)→gu ds es→e= .bF es→Rn bk d e
theorem Ns (hrel:Rel w A β base σ tmps acts) {d e:D} {u:Value} (h:Rn σ.bk d e) (hr:Rep w A β d u):
  ∃ A' bl,dJ w A' e u bl∧MW w A' base bl∧(∀ k,A k→A' k)∧(∀ k,A' k→k<w.heap.size)∧(∀ k,A' k→k<base→A k):=by
 have main:∀ (sh:List Nat),∃ A':Nat→Prop,(∀ k,A k→A' k)∧(∀ i∈sh,NU σ β A' i)∧(∀ k,A' k→k<w.heap.size)∧(∀ k,A' k→k<base→A k)∧∀ i b ad,i∉sh→σ.bk i=some b→b.ro=false→β i=some ad→¬ A' ad.block:=by
  intro sh
  refine⟨fun k=>A k∨∃ i∈sh,∃ b ad,σ.bk i=some b∧β i=some ad∧ad.block=k,fun k h=> .inl h,fun i hi b ad hb ha=> .inr ⟨i,hi,b,ad,hb,ha,rfl⟩,?_,?_,?_⟩
  ·rintro k (hk | ⟨i,_,b,ad,hb,ha,rfl⟩)
   ·exact hrel.low k hk
   ·exact nG hrel hb ha
  ·rintro k (hk | ⟨i,_,b,ad,hb,ha,rfl⟩) hlt
   ·exact hk
   ·rcases hrel.blk i b hb with⟨h1,_⟩ | ⟨ad',h1,h2⟩
    ·rw[ha] at h1;cases h1
    ·rw[ha] at h1;cases h1
     have:=h2.base
     omega
  ·rintro i b ad hi hb hro ha (hk | ⟨j,hj,b',ad',hb',ha',he⟩)
   ·rcases hrel.blk i b hb with⟨h1,_⟩ | ⟨ad2,h1,h2⟩
    ·rw[ha] at h1;cases h1
    ·rw[ha] at h1;cases h1
     exact h2.own hro hk
   ·exact hi (hrel.inj j i ad' ad (by simp[hb']) (by simp[hb]) ha' ha he▸hj)
 cases h with
 |shared h1 hrd=>
  rename_i sh e0
  obtain⟨A',k1,k2,k3,k4,_⟩:=main sh
  exact⟨A',[],aC.Po _ _ (hrd _ _ _ (o5 hrel k1 depth _ _ _ _ h1 k2 hr)),⟨(fun ad h=>by cases h), .nil⟩,k1,k3,k4⟩
 |sharedT hd h1 hrd he=>
  rename_i sh cs ds es
  subst hd he
  obtain⟨A',k1,k2,k3,k4,_⟩:=main sh
  simp only[Rep] at hr
  obtain⟨vs,rfl,hr⟩:=hr
  refine⟨A',[],?_,⟨(fun ad h=>by cases h), .nil⟩,k1,k3,k4⟩
  simp only[dJ]
  exact⟨vs,rfl,dD.Po _ _ (hrd.aas (kL (ok:=fun i=>NU σ β A' i) (fun d e ids u h1 h2 h3=>o5 hrel k1 depth d e ids u h1 h2 h3) cs ds sh vs h1 k2 hr))⟩
 |own h1 hn ha=>
  rename_i sh own
  obtain⟨A',k1,k2,k3,k4,k5⟩:=main sh
  obtain⟨bl,r1,r2⟩:=LM hrel k1 d e sh own u h1 k2 hr
  refine⟨A',bl,r1,⟨fun ad had=>?_,r2.apart hrel hn⟩,k1,k3,k4⟩
  obtain⟨id,m1,b,a2,m2,m3,m4,m5⟩:=r2.mem ad had
  have hns:id∉sh:=by
   have:=List.all_eq_true.1 ha id m1
   simpa using this
  rcases hrel.blk id b m2 with⟨q1,_⟩ | ⟨a3,q1,q2⟩
  ·rw[m4] at q1;cases q1
  ·rw[m4] at q1;cases q1
   rw[m5]
   exact⟨q2.base,nG hrel m2 m4,k5 id b a2 hns m2 m3 m4⟩
def St.start (args:List D) (nt:Nat):St:={ (St.enter { fr:={ nt:=0,tm:=fun _=> .undef },stk:=[],bk:=fun _=>none } args nt) with stk:=[] }
theorem U6 {args:List D} {vs:List Value} (hargs:dD w A args vs) (low:∀ k,A k→k<w.heap.size) (glo:xC w A) (nt:Nat):
  Rel w A (fun _=>none) w.heap.size (St.start args nt) (vs.toArray ++ Array.replicate (nt - vs.toArray.size) undef) []:=by
 have h0:Rel w A (fun _=>none) w.heap.size { fr:={ nt:=0,tm:=fun _=> .undef },stk:=[],bk:=fun _=>none } #[] []:=
  ⟨⟨rfl,fun t=>by simp[Rep,aC]⟩, .nil,(fun i b h=>by cases h),(fun i j a b h=>absurd rfl h),low,Nat.le_refl _,glo,trivial⟩
 have h1:=yF h0 (dD.MI args vs hargs) nt
 exact⟨h1.fr, .nil,h1.blk,h1.inj,h1.low,h1.top,h1.glo,trivial⟩
theorem GI {F:FuncId→List D→D→Prop} (hF:∀ f as res,F f as res→CallsD P f as res) {f:FuncId} {fn:Func} {c:Code} (hb:jq P f=some (fn,c)) {args:List D} {σ':St} {e:Ex} {ds:List D} {res:D}
  (hr:Runs P F (.code c) (St.start args fn.ntmps) e σ') (he:e= .normal∨e= .ret) (hres:resD P σ' fn.results.toList=some ds) (hfin:Rn σ'.bk (rF ds) res):CallsD P f args res:=by
 intro w A vs hargs low glo
 obtain⟨hfn,hbody,_⟩:=oC hb
 have hs:Sound P F (.code c) (St.start args fn.ntmps) e σ':=Rt hF hr
 refine(callsIn_wide (n:=0)).1 (callsIn_of_wp_marks (F:=FW none) hfn hbody trivial (hs none (.inl rfl) w A _ w.heap.size { tmps:=_,defers:=[] } [] _ (U6 hargs low glo fn.ntmps) ?_))
 intro a' w1 A' β' hd hrel1 ht1
 refine bodyEnd he (Nat.le_refl _) low hd rfl hrel1 ht1 (fun w' hrel ht=>?_)
 obtain⟨v,hv,hrep⟩:=qV hrel hres
 obtain⟨A2,bl,k1,k2,k3,k4,k5⟩:=Ns hrel hfin hrep
 exact⟨v,hv,v,A2,bl,rfl,k1,k2,fun k hk=>k3 k (ht.grows k hk),k4,fun k hk hlt=>ht.old k (k5 k hk hlt) hlt,ht.below⟩
end
end Go.Dam
end

section
namespace Go.Dam
open Go Go.RowKit
variable [gB]
def site (dep:Nat) (dst:Option Tmp):Nat:=(dep*4096+dst.getD 0)*32
def xG (acc:List Nat):List Edge→Nat→Nat
 |[],s=>s
 |e::es,s=>xG acc es (bif Region.binds .any e then Nat.lor (Nat.lor s (2 ^ e.on)) (acc.getD e.on 0) else s)
def BO:List Oper→List Nat→List Nat
 |[],acc=>acc
 |o::l,acc=>BO l (acc ++ [xG acc o.after.toList 0])
def masks (R:Array Oper):List Nat:=BO R.toList []
def J5 (R:Array Oper) (i k:Nat):Bool:=Nat.testBit ((masks R).getD k 0) i
theorem wQ {acc:List Nat} {i:Nat}:∀ {es:List Edge} {s:Nat},Nat.testBit (xG acc es s) i=true→Nat.testBit s i=true∨∃ e∈es,Region.binds .any e=true∧(i=e.on∨Nat.testBit (acc.getD e.on 0) i=true)
 |[],s,h=> .inl h
 |e::es,s,h=>by
  simp only[xG] at h
  rcases wQ h with h | ⟨e',h1,h2,h3⟩
  ·cases hb:Region.binds .any e with
   |false=>rw[hb] at h;exact .inl h
   |true=>
    rw[hb,cond_true] at h
    have h:Nat.testBit ((s ||| 2 ^ e.on) ||| acc.getD e.on 0) i=true:=h
    rw[Nat.testBit_or,Nat.testBit_or,Bool.or_eq_true,Bool.or_eq_true] at h
    rcases h with(h | h) | h
    ·exact .inl h
    ·rw[Nat.testBit_two_pow] at h
     exact .inr ⟨e,by simp,hb, .inl (by simpa using (of_decide_eq_true h).symm)⟩
    ·exact .inr ⟨e,by simp,hb, .inr h⟩
  ·exact .inr ⟨e',by simp[h1],h2,h3⟩
theorem wW {R:Array Oper}:∀ (l:List Oper) (acc:List Nat),(∀ j,l[j]? =R[acc.length+j]?)→(∀ k i,Nat.testBit (acc.getD k 0) i=true→OY R i k)→∀ k i,Nat.testBit ((BO l acc).getD k 0) i=true→OY R i k
 |[],acc,_,h=>h
 |o::l,acc,hl,h=>by
  simp only[BO]
  refine wW l _ (fun j=>by have:=hl (j+1);simpa [Nat.add_assoc,Nat.add_comm 1 j] using this) fun k i hk=>?_
  have ho:R[acc.length]? =some o:=by simpa using (hl 0).symm
  rcases Nat.lt_trichotomy k acc.length with hlt | rfl | hgt
  ·rw[List.getD_eq_getElem?_getD,List.getElem?_append_left hlt,←List.getD_eq_getElem?_getD] at hk
   exact h k i hk
  ·rw[List.getD_eq_getElem?_getD,List.getElem?_append_right (Nat.le_refl _)] at hk
   simp only[Nat.sub_self,List.getElem?_cons_zero,Option.getD_some] at hk
   rcases wQ hk with hk | ⟨e,h1,h2,h3⟩
   ·simp at hk
   ·rcases h3 with rfl | h3
    ·exact .edge ho (by simpa using h1) h2
    ·exact .trans ho (by simpa using h1) h2 (h _ _ h3)
  ·rw[List.getD_eq_getElem?_getD,List.getElem?_append_right (by omega)] at hk
   have:([xG acc o.after.toList 0]:List Nat)[k - acc.length]? =none:=by
    rw[List.getElem?_eq_none];simp;omega
   rw[this] at hk
   simp at hk
theorem tX {R:Array Oper} {i k:Nat} (h:J5 R i k=true):OY R i k:=
 wW R.toList [] (fun j=>by simp) (fun k i h=>by simp at h) k i h
def maker:Op→Bool
 | .alloc _ | .box _ _ | .buildSlice _ _ _ | .makeSlice _ _ _ | .call ⟨.value _,_,_⟩ | .call ⟨.builtin .append,_,_⟩=>true
 |_=>false
def tB (R:Array Oper) (k:Nat):Bool:=(List.range R.size).all fun j=>bif Nat.blt j k then J5 R j k else bif Nat.beq j k then true else J5 R k j
def dW (R:Array Oper) (k:Nat):Bool:=match R[k]? with
 |none=>false
 |some o=>maker o.op && !tB R k
def IU (R:Array Oper) (k:Nat):Nat:=match R[k]? with
 |none=>0
 |some o=>o.dst.getD 0
def wB (R:Array Oper) (k l:Nat):Bool:=!(Nat.beq l k) && !(J5 R l k)
def yV (P:Program) (R:Array Oper) (k:Nat):Nat:=match R[k]? with | some o=>kindOf P o.op | none=>0
def sL (P:Program) (R:Array Oper) (k:Nat):List Nat:=bif Nat.beq (yV P R k) 0 then[] else(List.range R.size).filter fun j=>Nat.blt k j && (!(J5 R k j) && Nat.beq (yV P R j) 2)
def uB (P:Program) (R:Array Oper) (j:Nat):Bool:=(List.range R.size).any fun k=>(sL P R k).contains j
def Dl (R:Array Oper) (tgt:List Nat) (k:Nat):Bool:=!(Nat.beq (tgt.getD k 0) 0) && (match R[k]? with
 |some o=>match o.op with
  | .call ⟨.builtin .append,_,_⟩=>true
  |_=>false
 |none=>false)
def gL (P:Program) (R:Array Oper) (tgt:List Nat) (k:Nat):List Nat:=bif Nat.beq (yV P R k) 0 then[] else(List.range R.size).filter fun j=>Dl R tgt j && (!(Nat.beq j k) && (!(J5 R k j) && !(J5 R j k)))
theorem aeV (P:Program) (R:Array Oper) (k:Nat):gL P R [] k=[]:=by
 unfold gL
 cases Nat.beq (yV P R k) 0
 ·rw[cond_false,List.filter_eq_nil_iff]
  intro j _;simp[Dl]
 ·rfl
def bI (P:Program) (R:Array Oper) (dep:Nat) (tgt:List Nat):Plan where
 zs:=fun k=>bif dW R k then List.range' ((dep*4096+IU R k)*32) 32 else[]
 W:=wB R
 T:=tB R
 S:=fun k=>sL P R k ++ gL P R tgt k
 U:=uB P R
 tgt:=fun k=>tgt.getD k 0
 Gr:=Dl R tgt
def ZJ (k:Nat) (o:Oper):Bool:=o.after.toList.all fun e=>!(Region.binds .any e) || Nat.blt e.on k
def F9 (P:Program) (R:Array Oper) (p:Plan) (j:Nat) (oj:Oper):Nat→List Oper→Bool
 |_,[]=>true
 |i,oi::l=>(J5 R i j || DR P R p i j oi oj) && F9 P R p j oj (i+1) l
def Ld (P:Program) (R:Array Oper) (p:Plan):Nat→List Oper→Bool
 |_,[]=>true
 |j,oj::l=>ZJ j oj && (F9 P R p j oj 0 (R.toList.take j) && Ld P R p (j+1) l)
def air (R:Array Oper):Bool:=(List.range R.size).all fun i=>!(dW R i) || (List.range R.size).all fun j=>Nat.beq i j || (!(dW R j) || !(Nat.beq (IU R i) (IU R j)))
def Zv (P:Program) (R:Array Oper):Bool:=Ld P R (bI P R 0 []) 0 R.toList && air R
section
variable {P:Program} {R:Array Oper}
theorem Bf {p:Plan} {j:Nat} {oj:Oper}:∀ {l:List Oper} {i:Nat},F9 P R p j oj i l=true→∀ k o,l[k]? =some o→J5 R (i+k) j=true∨DR P R p (i+k) j o oj=true
 |[],_,_,k,o,h=>by simp at h
 |oi::l,i,h,k,o,hk=>by
  simp only[F9,Bool.and_eq_true,Bool.or_eq_true] at h
  cases k with
  |zero=>simp at hk;subst hk;exact h.1
  |succ k=>
   have:=Bf h.2 k o (by simpa using hk)
   rwa[show i+1+k=i+(k+1) by omega] at this
theorem qR {p:Plan}:∀ {l:List Oper} {j:Nat},Ld P R p j l=true→∀ k o,l[k]? =some o→ZJ (j+k) o=true∧F9 P R p (j+k) o 0 (R.toList.take (j+k))=true
 |[],_,_,k,o,h=>by simp at h
 |oj::l,j,h,k,o,hk=>by
  simp only[Ld,Bool.and_eq_true] at h
  cases k with
  |zero=>simp at hk;subst hk;exact⟨h.1,h.2.1⟩
  |succ k=>
   have:=qR h.2.2 k o (by simpa using hk)
   rwa[show j+1+k=j+(k+1) by omega] at this
theorem yc {k:Nat} (h:dW R k=true):k<R.size:=by
 unfold dW at h
 split at h
 ·cases h
 next o ho=>exact(Array.getElem?_eq_some_iff.1 ho).1
theorem TS (dep:Nat) (tgt:List Nat) (h:Zv P R=true):mJ P R (bI P R dep tgt):=by
 simp only[Zv,Bool.and_eq_true] at h
 obtain⟨hp,hd⟩:=h
 refine⟨?_,?_,?_,?_,?_⟩
 ·intro k o hk e he hb
  have:=(qR hp k o (by simpa using hk)).1
  simp only[ZJ,Nat.zero_add,List.all_eq_true] at this
  have:=this e (by simpa using he)
  simpa [hb,Nat.blt_eq] using this
 ·intro i j oi oj hij hi hj
  have:=(qR hp j oj (by simpa using hj)).2
  simp only[Nat.zero_add] at this
  have h2:=Bf this i oi (by rw[List.getElem?_take_of_lt hij];simpa using hi)
  simp only[Nat.zero_add] at h2
  rcases h2 with h2 | h2
  ·exact .inl (tX h2)
  ·right
   have hc:(sL P R i ++ gL P R [] i).contains j=true→(sL P R i ++ gL P R tgt i).contains j=true:=fun h=>by
    rw[aeV,List.append_nil] at h
    simp only[List.contains_iff_mem,List.mem_append] at h ⊢
    exact .inl h
   simp only[bI,DR,Bool.and_eq_true,Bool.or_eq_true] at h2 ⊢
   obtain⟨b1,b2,b3,b4,b5,b6⟩:=h2
   refine⟨b1,b2,b3,b4,b5,?_⟩
   rcases b6 with b | b | ⟨b,c,d⟩ | b
   ·exact .inl b
   ·exact .inr (.inl b)
   ·exact .inr (.inr (.inl ⟨b,hc c,d⟩))
   ·exact .inr (.inr (.inr b))
 ·intro i j hij id hi hj
  simp only[bI] at hi hj
  cases mi:dW R i with
  |false=>rw[mi,cond_false] at hi;cases hi
  |true=>
   cases mj:dW R j with
   |false=>rw[mj,cond_false] at hj;cases hj
   |true=>
    rw[mi,cond_true,List.mem_range'_1] at hi;rw[mj,cond_true,List.mem_range'_1] at hj
    simp only[air,List.all_eq_true,List.mem_range,Bool.or_eq_true,Bool.not_eq_true'] at hd
    have h1:=hd i (yc mi)
    rw[mi] at h1
    rcases h1 with h1 | h1
    ·cases h1
    ·have h2:=h1 j (yc mj)
     rw[mj] at h2
     rcases h2 with h2 | h2 | h2
     ·exact hij (Nat.eq_of_beq_eq_true h2)
     ·cases h2
     ·have:IU R i≠IU R j:=fun e=>by rw[e,Nat.beq_refl] at h2;cases h2
      omega
 ·intro k l hne hna
  simp only[bI,wB,Bool.and_eq_true,Bool.not_eq_true']
  refine⟨Bool.eq_false_iff.2 fun e=>hne (Nat.eq_of_beq_eq_true e),Bool.eq_false_iff.2 fun e=>hna (tX e)⟩
 ·intro i j oi hne hi hj ha hb hg
  by_cases h0:kindOf P oi.op=0
  ·exact .inl h0
  right
  have hk:Nat.beq (yV P R i) 0=false:=by
   rw[Bool.eq_false_iff];intro e
   have:=Nat.eq_of_beq_eq_true e
   simp only[yV,hi] at this;exact h0 this
  refine List.mem_append.2 (.inr ?_)
  unfold gL
  rw[hk,cond_false,List.mem_filter,List.mem_range]
  refine⟨hj,?_⟩
  simp only[Bool.and_eq_true,Bool.not_eq_true']
  exact⟨hg,Bool.eq_false_iff.2 fun e=>hne (Nat.eq_of_beq_eq_true e).symm,Bool.eq_false_iff.2 fun e=>ha (tX e),Bool.eq_false_iff.2 fun e=>hb (tX e)⟩
end
end Go.Dam
end

section
namespace Go.Dam
open Go Go.RowKit
variable [gB]
noncomputable section
theorem Ak (g:Nat→List D) (m:Nat) (hg:∀ i,(g i).length=m):∀ (n i j:Nat),i<n→j<m→((List.range n).flatMap g)[i*m+j]? =(g i)[j]?
 |0,i,j,h,_=>by omega
 |n+1,i,j,h,hj=>by
  have hl:∀ n,((List.range n).flatMap g).length=n*m:=fun n=>by
   rw[List.length_flatMap];simp only[hg];simp[List.map_const']
  rw[List.range_succ,List.flatMap_append]
  simp only[List.flatMap_cons,List.flatMap_nil,List.append_nil]
  by_cases hi:i<n
  ·have:i*m+j<n*m:=by
    have:(i+1)*m≤n*m:=Nat.mul_le_mul_right m hi
    rw[Nat.add_mul] at this;omega
   rw[List.getElem?_append_left (by rw[hl];exact this)]
   exact Ak g m hg n i j hi hj
  ·obtain rfl:i=n:=by omega
   rw[List.getElem?_append_right (by rw[hl];omega),hl]
   congr 1;omega
theorem kJ {cols:List aH} {i j:Nat} {c:aH} (hi:i<ah cols) (hc:cols[j]? =some c):(aA cols)[i*cols.length+j]? =some (.v (c.val i)):=by
 have hj:j<cols.length:=(List.getElem?_eq_some_iff.1 hc).1
 unfold aA gX
 rw[eu]
 rw[Ak _ cols.length (fun i=>by simp) _ _ _ hi hj]
 simp only[List.getElem?_map,hc,Option.map_some]
 cases c<;>rfl
theorem aS (cols:List aH):(aA cols).length=ah cols*cols.length:=by
 unfold aA;rw[qE,eu,List.length_map]
theorem jI {cols:List aH} (m:Nat):(aA cols)[m]? =if m<ah cols*cols.length then(cols[m%cols.length]?).map (fun c=> .v (c.val (m / cols.length))) else none:=by
 split
 next h=>
  have hl:0<cols.length:=by
   rcases Nat.eq_zero_or_pos cols.length with e | e
   ·rw[e] at h;simp at h
   ·exact e
  have hm:m%cols.length<cols.length:=Nat.mod_lt _ hl
  have hd:m / cols.length<ah cols:=by
   rw[Nat.div_lt_iff_lt_mul hl];exact h
  have hc:cols[m%cols.length]? =some cols[m%cols.length]:=List.getElem?_eq_getElem hm
  have:=kJ hd hc
  rw[Nat.mul_comm,Nat.div_add_mod] at this
  rw[this,hc];rfl
 next h=>exact List.getElem?_eq_none (by rw[aS];omega)
def aH.of:aH→List D→Option aH
 | .ints k _,[]=>some (.ints k [])
 | .ints k ys, .v (.int k' n)::ds=>match aH.of (.ints k ys) ds with
  |some (.ints k2 xs)=>if k'=k∧k2=k then some (.ints k (n::xs)) else none
  |_=>none
 | .bools _,[]=>some (.bools [])
 | .bools ys, .v (.bool b)::ds=>match aH.of (.bools ys) ds with
  |some (.bools xs)=>some (.bools (b::xs))
  |_=>none
 |_,_=>none
theorem aH.xZ:∀ {ds:List D} {c c':aH},c.of ds=some c'→c'.len=ds.length∧∀ k,k<ds.length→ds[k]? =some (D.v (c'.val k))
 |[],c,c',h=>by
  cases c<;>simp[aH.of] at h<;>subst h<;>exact⟨rfl,fun k hk=>by simp at hk⟩
 |d::ds,c,c',h=>by
  cases c with
  |ints k ys=>
   unfold aH.of at h
   split at h
   ·simp_all
   next k1 ys1 k' n ds1 e1 e2=>
    simp at e1 e2
    obtain⟨rfl,rfl⟩:=e1
    obtain⟨rfl,rfl⟩:=e2
    split at h
    next k2 xs hx=>
     split at h
     next ek=>
      obtain⟨ek,ek2⟩:=ek
      simp at h;subst h;subst ek;subst ek2
      obtain⟨a1,a2⟩:=aH.xZ hx
      refine⟨by simp[aH.len] at a1 ⊢;exact a1,fun m hm=>?_⟩
      cases m with
      |zero=>rfl
      |succ m=>
       have:=a2 m (by simpa using hm)
       simpa [aH.val,List.getD_eq_getElem?_getD] using this
     ·cases h
    ·cases h
   ·simp_all
   ·simp_all
   ·cases h
  |bools ys=>
   unfold aH.of at h
   split at h
   ·simp_all
   ·simp_all
   ·simp_all
   next ys1 b ds1 e1 e2=>
    simp at e1 e2
    subst e1
    obtain⟨rfl,rfl⟩:=e2
    split at h
    next xs hx=>
     simp at h;subst h
     obtain⟨a1,a2⟩:=aH.xZ hx
     refine⟨by simp[aH.len] at a1 ⊢;exact a1,fun m hm=>?_⟩
     cases m with
     |zero=>rfl
     |succ m=>
      have:=a2 m (by simpa using hm)
      simpa [aH.val,List.getD_eq_getElem?_getD] using this
    ·cases h
   ·cases h
theorem aH.of_cells {cs:List D} {c c1:aH} (ho:c.of cs=some c1):aA [c1]=cs:=by
 obtain⟨a1,a2⟩:=aH.xZ ho
 apply List.ext_getElem?
 intro k
 rw[jI]
 have e1:ah [c1]=cs.length:=a1
 rw[e1]
 simp only[List.length_cons,List.length_nil,Nat.zero_add,Nat.mul_one,Nat.mod_one,Nat.div_one]
 by_cases hk:k<cs.length
 ·rw[if_pos hk,a2 k hk];rfl
 ·rw[if_neg hk];exact(List.getElem?_eq_none (by omega)).symm
end
end Go.Dam
end

section
namespace Go.Dam
open Go Go.RowKit
variable [gB]
theorem iK {i j:Nat} (h:i≠j):Nat.beq i j=false:=by
 rw[Bool.eq_false_iff];intro e;exact h (Nat.eq_of_beq_eq_true e)
theorem fM (i:Nat):Nat.beq i i=true:=Nat.beq_refl i
noncomputable section
inductive TT where
 |lf
 |nd (d:D) (l r:TT)
def TT.top:TT→D:=TT.rec .undef (fun d _ _ _ _=>d)
def TT.kid (b:Bool):TT→TT:=TT.rec .lf (fun _ l r _ _=>bif b then r else l)
def TT.get (p:List Bool):TT→D:=List.rec (motive:=fun _=>TT→D) (fun t=>t.top) (fun b _ ih t=>ih (t.kid b)) p
def TT.set (d:D) (p:List Bool):TT→TT:=
 List.rec (motive:=fun _=>TT→TT) (fun t=> .nd d (t.kid false) (t.kid true)) (fun b _ ih t=> .nd t.top (bif b then t.kid false else ih (t.kid false)) (bif b then ih (t.kid true) else t.kid true)) p
def TT.map (f:D→D):TT→TT:=TT.rec .lf (fun d _ _ l r=> .nd (f d) l r)
def DW (k:Nat):Nat→List Bool:=
 Nat.rec (motive:=fun _=>Nat→List Bool) (fun _=>[]) (fun _ ih n=>bif Nat.beq n 0 then[] else bif Nat.beq (n%2) 1 then false::ih (n / 2) else true::ih (n / 2 - 1)) k
def path (n:Nat):List Bool:=DW (n+1) n
def dec:List Bool→Nat
 |[]=>0
 |false::p=>1+2*dec p
 |true::p=>2+2*dec p
theorem yN:∀ (k n:Nat),n<k→dec (DW k n)=n
 |0,n,h=>by omega
 |k+1,n,h=>by
  show dec (bif Nat.beq n 0 then[] else bif Nat.beq (n%2) 1 then false::DW k (n / 2) else true::DW k (n / 2 - 1))=n
  by_cases h0:n=0
  ·subst h0;rfl
  ·rw[iK h0,cond_false]
   by_cases h1:n%2=1
   ·rw[h1,fM,cond_true,dec,yN k _ (by omega)];omega
   ·rw[iK h1,cond_false,dec,yN k _ (by omega)];omega
theorem EJ (n:Nat):dec (path n)=n:=yN _ _ (Nat.lt_succ_self n)
theorem Og {m n:Nat} (h:path m=path n):m=n:=by rw[←EJ m,h,EJ]
theorem pF:∀ (k n:Nat),(DW k n).length≤n
 |0,n=>Nat.zero_le _
 |k+1,n=>by
  show(bif Nat.beq n 0 then[] else bif Nat.beq (n%2) 1 then false::DW k (n / 2) else true::DW k (n / 2 - 1)).length≤n
  by_cases h0:n=0
  ·subst h0;exact Nat.zero_le _
  ·rw[iK h0,cond_false]
   by_cases h1:n%2=1
   ·rw[h1,fM,cond_true,List.length_cons];have:=pF k (n / 2);omega
   ·rw[iK h1,cond_false,List.length_cons];have:=pF k (n / 2 - 1);omega
theorem TT.CX (d:D):∀ (p q:List Bool) (t:TT),(t.set d p).get q=if q=p then d else t.get q
 |[],[],t=>rfl
 |[],b::q,t=>by
  rw[if_neg (by simp)]
  show TT.get q (TT.kid b (.nd d (t.kid false) (t.kid true)))=TT.get q (t.kid b)
  cases b<;>rfl
 |b::p,[],t=>by rw[if_neg (by simp)];rfl
 |b::p,c::q,t=>by
  show TT.get q (TT.kid c (.nd t.top (bif b then t.kid false else(t.kid false).set d p) (bif b then(t.kid true).set d p else t.kid true)))=if c::q=b::p then d else TT.get q (t.kid c)
  have e:∀ x:TT,(if q=p then d else TT.get q x)=TT.get q (x.set d p):=fun x=>(TT.CX d p q x).symm
  cases b<;>cases c
  ·show TT.get q ((t.kid false).set d p)=_
   rw[←e];simp
  ·show TT.get q (t.kid true)=_
   rw[if_neg (by simp)]
  ·show TT.get q (t.kid false)=_
   rw[if_neg (by simp)]
  ·show TT.get q ((t.kid true).set d p)=_
   rw[←e];simp
theorem TT.kid_map (f:D→D) (b:Bool) (t:TT):(t.map f).kid b=(t.kid b).map f:=by
 cases t with
 |lf=>rfl
 |nd d l r=>cases b<;>rfl
theorem TT.get_map {f:D→D} (hf:f .undef= .undef):∀ (p:List Bool) (t:TT),(t.map f).get p=f (t.get p)
 |[],t=>by cases t with
  |lf=>exact hf.symm
  |nd d l r=>rfl
 |b::p,t=>by
  show TT.get p ((t.map f).kid b)=f (TT.get p (t.kid b))
  rw[TT.kid_map,TT.get_map hf p]
def TT.mk (val:Nat→D) (k:Nat):Nat→Nat→TT:=
 Nat.rec (motive:=fun _=>Nat→Nat→TT) (fun _ _=> .lf) (fun _ ih o s=> .nd (val o) (ih (o+s) (2*s)) (ih (o+2*s) (2*s))) k
theorem TT.PK (val:Nat→D):∀ (p:List Bool) (k o s:Nat),(TT.mk val k o s).get p=if p.length<k then val (o+s*dec p) else .undef
 |[],0,o,s=>rfl
 |[],k+1,o,s=>by rw[if_pos (by simp)];show val o=val (o+s*0);rw[Nat.mul_zero,Nat.add_zero]
 |b::p,0,o,s=>by
  rw[if_neg (by simp)]
  show TT.get p (TT.kid b .lf)= .undef
  have:∀ p,TT.get p .lf= .undef:=fun p=>by
   induction p with
   |nil=>rfl
   |cons b p ih=>exact ih
  exact this p
 |b::p,k+1,o,s=>by
  show TT.get p (TT.kid b (.nd (val o) (TT.mk val k (o+s) (2*s)) (TT.mk val k (o+2*s) (2*s))))=_
  have e:(b::p).length<k+1↔p.length<k:=by simp
  have m:s*(2*dec p)=2*s*dec p:=by rw[←Nat.mul_assoc,Nat.mul_comm s 2]
  cases b
  ·show TT.get p (TT.mk val k (o+s) (2*s))=_
   rw[TT.PK val p k]
   simp only[e,dec,Nat.mul_add,Nat.mul_one,m,Nat.add_assoc]
  ·show TT.get p (TT.mk val k (o+2*s) (2*s))=_
   rw[TT.PK val p k]
   simp only[e,dec,Nat.mul_add,m,Nat.add_assoc,Nat.mul_comm s 2]
def EI (args:List D) (nt n:Nat):D:=match args[n]? with
 |some d=>d
 |none=>bif Nat.blt n nt then .v undef else .undef
inductive BX where
 |cells (cs:List D) (ro:Bool)
 |row (cols:List aH) (ro:Bool)
def BX.blk:BX→dR
 | .cells cs ro=>⟨cs,ro⟩
 | .row cols ro=>⟨aA cols,ro⟩
def BX.re (cols:List aH) (cs:List D):BX:=match cols with
 |[c]=>match c.of cs with
  |some c1=> .row [c1] false
  |none=> .cells cs false
 |_=> .cells cs false
theorem BX.Ye (cols:List aH) (cs:List D):(BX.re cols cs).blk=⟨cs,false⟩:=by
 unfold BX.re
 split
 ·split
  next ho=>simp only[BX.blk];rw[aH.of_cells ho]
  ·rfl
 ·rfl
def BX.forget (i:Nat):BX→BX
 | .cells cs ro=> .cells (cs.map (D.forget i)) ro
 | .row cols ro=> .row cols ro
def BX.wipe (q:Nat→Bool):BX→BX
 | .cells cs ro=> .cells (cs.map (D.wipe q)) ro
 | .row cols ro=> .row cols ro
def BX.freeze:BX→BX
 | .cells cs _=> .cells cs true
 | .row cols _=> .row cols true
structure Cs where
 tm:TT
 nt:Nat
 stk:List (TT×Nat)
 bk:List (Nat×BX)
 loop:Option jK:=none
 gen:Nat:=0
inductive Cast where
 |nil (t id sz:Nat) (cols:List aH)
 |cells (id:Nat) (c:aH)
 |cnil (b off id sz:Nat) (cols:List aH)
 |cut (id k:Nat)
inductive PE where
 |k (l:List Cast)
 |q (l:List Cast)
 |c (n:Nat)
 |d (b:Bool)
 |u
 |l (keep:List (List Nat)) (ren:List (Nat×Nat)) (c0:Cs) (e:Ex) (c1:Cs)
structure Cf extends Cs where
 todo:List PE:=[]
 cds:List Prop:=[]
def aI:List Prop→Prop
 |[]=>True
 |p::l=>p∧aI l
theorem aW:∀ (l m:List Prop),aI (l ++ m)↔aI l∧aI m
 |[],m=>by simp[aI]
 |p::l,m=>by simp[aI,aW l m,and_assoc]
def zY (c:Cf):Nat:=c.stk.length
def bP (i:Nat):List (Nat×BX)→Option BX
 |[]=>none
 |(j,b)::l=>bif Nat.beq j i then some b else bP i l
def bZ (i:Nat) (l:List (Nat×BX)):Option dR:=(bP i l).map BX.blk
def DK (i:Nat) (b:BX):List (Nat×BX)→List (Nat×BX)
 |[]=>[(i,b)]
 |(j,c)::l=>bif Nat.beq j i then(j,b)::l else(j,c)::DK i b l
def dO (i:Nat):List (Nat×BX)→List (Nat×BX)
 |[]=>[]
 |(j,c)::l=>bif Nat.beq j i then dO i l else(j,c.forget i)::dO i l
def roB (ids:List Nat):List (Nat×BX)→List (Nat×BX)
 |[]=>[]
 |(j,c)::l=>(j,bif ids.contains j then c.freeze else c)::roB ids l
def iY (f:TT×Nat):Fr:={ nt:=f.2,tm:=fun t=>f.1.get (path t) }
def Cs.get (c:Cs) (t:Nat):D:=c.tm.get (path t)
def Cs.abs (c:Cs):St:={ fr:=iY (c.tm,c.nt),stk:=c.stk.map iY,bk:=fun i=>bZ i c.bk,loop:=c.loop }
abbrev Cf.abs (c:Cf):St:=c.toCs.abs
theorem fA {cols:List aH} {d:D} (h:d∈aA cols):∃ x,d= .v x:=by
 simp only[aA,gX,List.mem_flatMap,List.mem_map,List.map_map,Function.comp] at h
 obtain⟨i,_,c,_,rfl⟩:=h
 cases c<;>exact⟨_,rfl⟩
theorem fD (i:Nat) (cols:List aH):(aA cols).map (D.forget i)=aA cols:=by
 refine(List.map_congr_left fun d hd=>?_).trans (List.map_id _)
 obtain⟨x,rfl⟩:=fA hd
 rfl
theorem En (q:Nat→Bool) (cols:List aH):(aA cols).map (D.wipe q)=aA cols:=by
 refine(List.map_congr_left fun d hd=>?_).trans (List.map_id _)
 obtain⟨x,rfl⟩:=fA hd
 rfl
theorem BX.PU (i:Nat) (b:BX):(b.forget i).blk=b.blk.forget i:=by
 cases b with
 |cells cs ro=>rfl
 |row cols ro=>simp only[BX.forget,BX.blk,dR.forget,fD]
theorem BX.YO (q:Nat→Bool) (b:BX):(b.wipe q).blk=b.blk.wipe q:=by
 cases b with
 |cells cs ro=>rfl
 |row cols ro=>simp only[BX.wipe,BX.blk,dR.wipe,En]
theorem BX.PW (b:BX):b.freeze.blk={ b.blk with ro:=true }:=by cases b<;>rfl
theorem Hg (i:Nat) (b:BX) (j:Nat):∀ l,bP j (DK i b l)=if j=i then some b else bP j l
 |[]=>by
  by_cases h:j=i
  ·subst h;simp[DK,bP,fM]
  ·simp[DK,bP,h,iK (Ne.symm h)]
 |(k,c)::l=>by
  simp only[DK]
  by_cases hk:k=i
  ·subst hk
   rw[fM,cond_true]
   by_cases h:j=k
   ·subst h;simp[bP,fM]
   ·simp[h,bP,iK (Ne.symm h)]
  ·rw[iK hk,cond_false]
   simp only[bP,Hg i b j l]
   by_cases h:j=i
   ·subst h;simp[iK hk]
   ·simp[h]
theorem vW (i j:Nat):∀ l,bP j (dO i l)=if j=i then none else(bP j l).map (BX.forget i)
 |[]=>by simp[dO,bP]
 |(k,c)::l=>by
  simp only[dO]
  by_cases hk:k=i
  ·subst hk
   rw[fM,cond_true,vW k j l]
   by_cases h:j=k
   ·subst h;simp
   ·simp[h,bP,iK (Ne.symm h)]
  ·rw[iK hk,cond_false]
   simp only[bP,vW i j l]
   by_cases h:k=j
   ·subst h;simp[fM,hk]
   ·simp[iK h]
theorem NG (ids:List Nat) (j:Nat):∀ l,bP j (roB ids l)=if j∈ids then(bP j l).map BX.freeze else bP j l
 |[]=>by simp[roB,bP]
 |(k,c)::l=>by
  simp only[roB,bP,NG ids j l]
  by_cases h:k=j
  ·subst h
   simp only[fM,cond_true]
   by_cases hm:k∈ids<;>simp[hm]
  ·simp only[iK h,cond_false]
theorem Ve (i:Nat) (b:BX) (j:Nat) (l:List (Nat×BX)):bZ j (DK i b l)=if j=i then some b.blk else bZ j l:=by
 unfold bZ;rw[Hg];split<;>rfl
theorem QK (i j:Nat) (l:List (Nat×BX)):bZ j (dO i l)=if j=i then none else(bZ j l).map (dR.forget i):=by
 unfold bZ;rw[vW];split
 ·rfl
 ·simp only[Option.map_map];congr 1;funext b;exact BX.PU i b
theorem Yq (ids:List Nat) (j:Nat) (l:List (Nat×BX)):bZ j (roB ids l)=if j∈ids then(bZ j l).map fun b=>{ b with ro:=true } else bZ j l:=by
 unfold bZ;rw[NG];split
 ·simp only[Option.map_map];congr 1;funext b;exact BX.PW b
 ·rfl
def Cf.put (c:Cf) (dst:Option Tmp) (d:D):Cf:=
 match dst with
 |some t=>{ c with tm:=c.tm.set (bif Nat.blt t c.nt then d else .undef) (path t) }
 |none=>c
def Cf.forget (c:Cf) (i:Nat):Cf:={ tm:=c.tm.map (D.forget i),nt:=c.nt,stk:=c.stk.map fun f=>(f.1.map (D.forget i),f.2),bk:=dO i c.bk,loop:=if i=dI then none else c.loop,gen:=c.gen,todo:=c.todo,cds:=c.cds }
def Cf.setB (c:Cf) (i:Nat) (b:BX):Cf:={ c with bk:=DK i b c.bk }
def Cf.eU (c:Cf) (ids:List Nat):Cf:={ c with bk:=roB ids c.bk }
def Cf.enter (c:Cf) (args:List D) (nt:Nat):Cf:={ tm:=TT.mk (EI args (args.length+(nt - args.length))) (args.length+(nt - args.length)+1) 0 1,nt:=args.length+(nt - args.length),stk:=(c.tm,c.nt)::c.stk,bk:=c.bk,loop:=c.loop,gen:=c.gen,todo:=c.todo,cds:=c.cds }
def Cf.Gl (c:Cf) (l:List Prop):Cf:={ c with cds:=l ++ c.cds }
theorem NR (f:TT) (nt t:Nat) (d:D):iY (f.set (bif Nat.blt t nt then d else .undef) (path t),nt)=(iY (f,nt)).put t d:=by
 simp only[iY,Fr.put]
 congr 1
 funext i
 rw[TT.CX]
 by_cases h:i=t
 ·subst h
  rw[if_pos rfl,if_pos rfl]
  have key:∀ (inst:Decidable (i<nt)),(bif i.blt nt then d else D.undef)=@ite D (i<nt) inst d .undef:=by
   intro inst
   by_cases hl:i<nt
   ·rw[if_pos hl,show Nat.blt i nt=true by simpa [Nat.blt_eq] using hl];rfl
   ·rw[if_neg hl,show Nat.blt i nt=false by rw[Bool.eq_false_iff];simpa [Nat.blt_eq] using hl];rfl
  exact key _
 ·rw[if_neg h,if_neg (fun e=>h (Og e))]
theorem bJ (c:Cf) (dst:Option Tmp) (d:D):(c.put dst d).abs=c.abs.put dst d:=by
 cases dst with
 |none=>rfl
 |some t=>simp only[Cf.put,Cf.abs,Cs.abs,St.put,NR]
theorem Am (i:Nat) (f:TT×Nat):iY (f.1.map (D.forget i),f.2)=(iY f).forget i:=by
 simp only[iY,Fr.forget]
 congr 1
 funext t
 exact TT.get_map rfl _ _
theorem bW (c:Cf) (i:Nat):(c.forget i).abs=c.abs.forget i:=by
 simp only[Cf.forget,Cf.abs,Cs.abs,St.forget,List.map_map]
 congr 1
 ·exact Am i (c.tm,c.nt)
 ·congr 1
  funext f
  exact Am i f
 ·funext j
  exact QK i j c.bk
theorem bD (c:Cf) (i:Nat) (b:BX):(c.setB i b).abs=c.abs.setB i b.blk:=by
 simp only[Cf.setB,Cf.abs,Cs.abs,St.setB]
 congr 1
 funext j
 exact Ve i b j c.bk
theorem Yj (c:Cf) (ids:List Nat):(c.eU ids).abs=c.abs.eU ids:=by
 simp only[Cf.eU,Cf.abs,Cs.abs,St.eU]
 congr 1
 funext j
 exact Yq ids j c.bk
theorem KW (args:List D) (nt:Nat):iY (TT.mk (EI args (args.length+(nt - args.length))) (args.length+(nt - args.length)+1) 0 1,args.length+(nt - args.length)) =
  { nt:=args.length+(nt - args.length),tm:=fun t=>(args ++ List.replicate (nt - args.length) (D.v undef)).getD t .undef }:=by
 simp only[iY]
 congr 1
 funext t
 rw[TT.PK,EJ,Nat.zero_add,Nat.one_mul]
 have hlen:(path t).length≤t:=pF (t+1) t
 rw[List.getD_eq_getElem?_getD,List.getElem?_append,List.getElem?_replicate]
 by_cases h1:t<args.length
 ·have hp:(path t).length<args.length+(nt - args.length)+1:=by omega
  rw[if_pos hp,if_pos h1]
  simp[EI,h1]
 ·rw[if_neg h1]
  by_cases h2:t<args.length+(nt - args.length)
  ·have hp:(path t).length<args.length+(nt - args.length)+1:=by omega
   have h3:t - args.length<nt - args.length:=by omega
   rw[if_pos hp,if_pos h3]
   simp[EI,h1,show Nat.blt t (args.length+(nt - args.length))=true by simpa [Nat.blt_eq] using h2]
  ·have h3:¬ (t - args.length<nt - args.length):=by omega
   rw[if_neg h3]
   split
   ·simp[EI,h1,show Nat.blt t (args.length+(nt - args.length))=false by rw[Bool.eq_false_iff];simpa [Nat.blt_eq] using h2]
   ·rfl
theorem Vl (c:Cf) (args:List D) (nt:Nat):(c.enter args nt).abs=c.abs.enter args nt:=by
 simp only[Cf.enter,Cf.abs,Cs.abs,St.enter,List.map_cons]
 congr 1
 exact KW args nt
@[simp] theorem iO (c:Cf) (l:List Prop):(c.Gl l).abs=c.abs:=rfl
def eG (c:Cs):Operand→D
 | .tmp t=>c.get t
 | .const v=>D.l7 v
 | .global g=>Zx (gB.g g)
 | .func f=> .fn f []
theorem dw (c:Cs):eG c=bn c.abs:=by
 funext x;cases x<;>rfl
def Cs.look (c:Cs):Nat→Option dR:=fun i=>bZ i c.bk
def lq (c:Cf) (dst:Option Tmp) (id:Nat):Eff→Option Cf
 | .val d=>some (c.put dst d)
 | .box cs=>some (((c.forget id).setB id (.cells (cs.map (D.forget id)) false)).put dst (.ptr id 0))
 | .row cs n sz=>some (((c.forget id).setB id (.cells (cs.map (D.forget id)) false)).put dst (.sl id 0 n ⟨sz,0⟩))
 | .row0=>some (c.put dst .emp)
 | .sto i off ds=>match bP i c.bk with
  |some (.cells cells false)=>if off+ds.length≤cells.length then some ((c.setB i (.cells (splice cells off ds) false)).put dst (.v undef)) else none
  |_=>none
 | .cpy i off ds u=>match bP i c.bk with
  |some (.cells cells false)=>if off+ds.length≤cells.length then some ((c.setB i (.cells (splice cells off ds) false)).put dst (D.l7 u)) else none
  |some (.row cols false)=>if off+ds.length≤(aA cols).length then some ((c.setB i (BX.re cols (splice (aA cols) off ds))).put dst (D.l7 u)) else none
  |_=>none
 | .app s sz m ds=>match s with
  | .emp=>some (((c.forget id).setB id (.cells (ds.map (D.forget id)) false)).put dst (.sl id 0 m ⟨sz,0⟩))
  | .v _=>some (((c.forget id).setB id (.cells (ds.map (D.forget id)) false)).put dst (.sl id 0 m ⟨sz,0⟩))
  | .sl i off n _=>match bP i c.bk with
   |some (.cells cells false)=>if off+n*sz≤cells.length then some (((c.forget i).setB i (.cells (((cells.drop off).take (n*sz) ++ ds).map (D.forget i)) false)).put dst (.sl i 0 (n+m) ⟨sz,0⟩)) else none
   |_=>none
  |_=>none
theorem dY {i:Nat} {l:List (Nat×BX)} {cells:List D} {ro:Bool} (h:bP i l=some (.cells cells ro)):bZ i l=some ⟨cells,ro⟩:=by
 unfold bZ;rw[h];rfl
theorem FV {i:Nat} {l:List (Nat×BX)} {cols:List aH} {ro:Bool} (h:bP i l=some (.row cols ro)):bZ i l=some ⟨aA cols,ro⟩:=by
 unfold bZ;rw[h];rfl
theorem Ud {c:Cf} {dst:Option Tmp} {id:Nat} {e:Eff} {c':Cf} (h:lq c dst id e=some c'):dK c.abs dst id e=some c'.abs∧c'.cds=c.cds:=by
 have pc:∀ (c:Cf) (d:D),(c.put dst d).cds=c.cds:=fun c d=>by cases dst<;>rfl
 cases e with
 |val d=>simp[lq] at h;subst h;exact⟨by simp[dK,bJ],pc _ _⟩
 |box cs=>simp[lq] at h;subst h;exact⟨by simp[dK,bJ,bD,bW,BX.blk],pc _ _⟩
 |row cs n sz=>simp[lq] at h;subst h;exact⟨by simp[dK,bJ,bD,bW,BX.blk],pc _ _⟩
 |row0=>simp[lq] at h;subst h;exact⟨by simp[dK,bJ],pc _ _⟩
 |sto i off ds=>
  simp only[lq] at h
  split at h
  next cells hl=>
   split at h
   next hle=>
    simp only[Option.some.injEq] at h;subst h
    refine⟨?_,pc _ _⟩
    simp only[dK,show c.abs.bk i=some ⟨cells,false⟩ from dY hl,if_pos hle,bJ,bD,BX.blk]
   ·cases h
  ·cases h
 |cpy i off ds k=>
  simp only[lq] at h
  split at h
  next cells hl=>
   split at h
   next hle=>
    simp only[Option.some.injEq] at h;subst h
    refine⟨?_,pc _ _⟩
    simp only[dK,show c.abs.bk i=some ⟨cells,false⟩ from dY hl,if_pos hle,bJ,bD,BX.blk]
   ·cases h
  next cols hl=>
   split at h
   next hle=>
    simp only[Option.some.injEq] at h;subst h
    refine⟨?_,pc _ _⟩
    simp only[dK,show c.abs.bk i=some ⟨aA cols,false⟩ from FV hl,if_pos hle,bJ,bD,BX.Ye]
   ·cases h
  ·cases h
 |app s sz m ds=>
  cases s with
  |v x=>simp[lq] at h;subst h;exact⟨by simp[dK,bJ,bD,bW,BX.blk],pc _ _⟩
  |emp=>simp[lq] at h;subst h;exact⟨by simp[dK,bJ,bD,bW,BX.blk],pc _ _⟩
  |sl i off n z=>
   simp only[lq] at h
   split at h
   next cells hl=>
    split at h
    next hle=>
     simp only[Option.some.injEq] at h;subst h
     refine⟨?_,pc _ _⟩
     simp only[dK,show c.abs.bk i=some ⟨cells,false⟩ from dY hl,if_pos hle,bJ,bD,bW,BX.blk]
    ·cases h
   ·cases h
  |_=>simp[lq] at h
end
end Go.Dam
end

section
namespace Go.Dam
open Go Go.RowKit
variable [gB]
noncomputable section
def aiv (P:Program) (ρ:Operand→D) (args:List Operand) (ts:List TypeId):Option Eff:=
 match args,ts with
 |[x],[t]=>lenD P t (ρ x)
 |_,_=>none
def Y3 (P:Program) (bk:Nat→Option dR) (ρ:Operand→D) (args:List Operand) (ts:Array TypeId):Option Eff:=
 match args with
 |[s,x]=>jd P bk ts (ρ s) (ρ x)
 |_=>none
def afh (P:Program) (bk:Nat→Option dR) (ρ:Operand→D) (args:List Operand) (ts:Array TypeId):Option Eff:=
 match args with
 |[d,x]=>RF P bk ts (ρ d) (ρ x)
 |_=>none
def ab6 (P:Program) (ρ:Operand→D) (args:List Operand) (ts:Array TypeId):Option Eff:=
 match args with
 |[d]=>Ku P ts (ρ d)
 |_=>none
def UA (P:Program) (bk:Nat→Option dR) (ρ:Operand→D) (ty:TypeId) (args:Array Operand) (ts:Array TypeId):Builtin→Option Eff
 | .len=>aiv P ρ args.toList ts.toList
 | .append=>Y3 P bk ρ args.toList ts
 | .copy=>afh P bk ρ args.toList ts
 | .clear=>ab6 P ρ args.toList ts
 | .max=>qW .gtr (fun vs=>qF P (Builtin.max_ ts ty vs.toArray)) (args.toList.map ρ)
 | .min=>qW .lss (fun vs=>qF P (Builtin.min_ ts ty vs.toArray)) (args.toList.map ρ)
 |_=>none
def afY (P:Program) (bk:Nat→Option dR) (ρ:Operand→D) (ty:TypeId) (c:Call):Option Eff:=
 match c.callee with
 | .builtin b=>UA P bk ρ ty c.args c.argTypes b
 |_=>none
def afl (ρ:Operand→D) (f:Fn) (first captured:Array Operand):Option Eff:=
 match f with
 | .func f=>if first.size=0 then some (.val (.fn f (captured.toList.map ρ))) else none
 |_=>none
def aat (P:Program) (bk:Nat→Option dR) (ρ:Operand→D) (t:TypeId) (x:Operand) (lo hi mx:Option Operand):Option Eff:=
 match mx with
 |none=>sN P bk t (ρ x) (lo.map ρ) (hi.map ρ)
 |some m=>tH P t (ρ x) (lo.map ρ) (hi.map ρ) (ρ m)
def valOf (d:D):Option Eff:=some (.val d)
def ahv (d:D):Option Eff:=d.cells.map .box
def adC (P:Program) (ρ:Operand→D) (t:TypeId) (parts:Array (Nat×Operand)):Option Eff:=EH P t (parts.toList.map fun p=>(p.1,ρ p.2))
def MJ (P:Program) (ρ:Operand→D) (t:TypeId) (len:Nat) (parts:Array (Nat×Operand)):Option Eff:=mZ P t len (parts.toList.map fun p=>(p.1,ρ p.2))
def opF (P:Program) (bk:Nat→Option dR) (ρ:Operand→D) (ty:TypeId):Op→Option Eff
 | .move x=>valOf (ρ x)
 | .assign x=>valOf (ρ x)
 | .pick c a b=>KY (ρ c) (ρ a) (ρ b)
 | .alloc t=>(Ah P t).map .box
 | .box _ x=>ahv (ρ x)
 | .build t parts=>adC P ρ t parts
 | .buildSlice t len parts=>MJ P ρ t len parts
 | .load t a=>LK P bk t (ρ a)
 | .store t a x=>rq P t (ρ a) (ρ x)
 | .nilCheck x=>Sm (ρ x)
 | .binOp op t x y _=>Ul P op t x y (ρ x) (ρ y)
 | .unOp op _ x=>aag P op (ρ x)
 | .convert src dst x=>J7 P src dst (ρ x)
 | .makeFunc f first captured=>afl ρ f first captured
 | .makeSlice t l c=>jX P t (ρ l) (ρ c)
 | .slice t x lo hi mx=>aat P bk ρ t x lo hi mx
 | .fieldAddr t x f=>lU P t (ρ x) f
 | .field t x f=>E5 P t (ρ x) f
 | .indexAddr t x ix=>jr P t (ρ x) (ρ ix)
 | .index t x ix=>vY P t (ρ x) (ρ ix)
 | .extract x i=>qL (ρ x) i
 | .call c=>afY P bk ρ ty c
 |_=>none
theorem aec (P:Program) (bk:Nat→Option dR) (ρ:Operand→D) (ty:TypeId) (op:Op):opF P bk ρ ty op=dB P bk ρ ty op:=by
 cases op with
 |makeFunc f a b=>cases f<;>rfl
 |slice t x lo hi mx=>cases mx<;>rfl
 |call c=>
  obtain⟨callee,args,ts⟩:=c
  obtain⟨args⟩:=args
  cases callee with
  |value g=>rfl
  |invoke r m=>rfl
  |builtin b=>
   cases b<;>first | rfl | skip
   all_goals (obtain⟨ts⟩:=ts;rcases args with _ | ⟨x,_ | ⟨y,_ | ⟨z,l⟩⟩⟩<;>rcases ts with _ | ⟨t,_ | ⟨u,m⟩⟩<;>rfl)
 |_=>rfl
abbrev OX:=Eff×List Prop
def nR (e:Option Eff):Option OX:=
 match e with
 |some e=>some (e,[])
 |none=>none
def ae2 (op:BinOp) (k k':IntKind) (p q:Int):Option OX:=
 match op with
 | .shl=>some (.val (.v (.int k (aj .shl k p q))),[decide (0≤q)=true])
 | .shr=>some (.val (.v (.int k (aj .shr k p q))),[decide (0≤q)=true])
 | .quo=>if k=k' then some (.val (.v (.int k (aj .quo k p q))),[decide (q=0)=false]) else none
 | .rem=>if k=k' then some (.val (.v (.int k (aj .rem k p q))),[decide (q=0)=false]) else none
 |op=>match intD op k k' p q with
  |some d=>some (.val d,[])
  |none=>none
def agE (P:Program) (op:BinOp) (t:TypeId) (x y:Operand) (a b:D):Option OX:=
 match a,b with
 | .v (.int k p), .v (.int k' q)=>ae2 op k k' p q
 |a,b=>nR (wO P op t x y a b)
def Tm (P:Program) (t:TypeId) (cs:List Col) (ix:D):Option OX:=
 match ix,P.underlying t with
 | .v (.int _ i),some (.slice elem)=>match P.info? elem with
  |none=>none
  |some j=>if j.size=cs.length then some (.val (.shp (cs.map (Col.cell i.toNat)) 0),[decide (0≤i)=true,decide (i<(rowLen cs:Int))=true]) else none
 |_,_=>none
def EU (P:Program) (t:TypeId) (x ix:D):Option OX:=
 match x with
 | .rc cs=>Tm P t cs ix
 |x=>nR (jY P t x ix)
def acY (s:ByteArray) (i:Int):OX:=(.val (.v (.int .u8 (((s.data.toList.map UInt8.toNat).getD i.toNat 0:Nat):Int))),[decide (0≤i)=true,decide (i<(s.size:Int))=true])
def XW (P:Program) (t:TypeId) (x ix:D):Option OX:=
 match x,ix,P.underlying t with
 | .v (.string s), .v (.int _ i),some .string=>some (acY s i)
 |x,ix,_=>nR (vY P t x ix)
def loX:Option D→Option Int
 |none=>some 0
 |some (.v (.int _ l))=>some l
 |some _=>none
def hiX (n:Nat):Option D→Option Int
 |none=>some n
 |some (.v (.int _ h))=>some h
 |some _=>none
def MH (P:Program) (t:TypeId) (cs:List Col) (lo hi:Option D):Option OX:=
 match P.underlying t with
 |some (.slice elem)=>match P.info? elem with
  |some j=>match loX lo,hiX (rowLen cs) hi with
   |some l,some h=>if j.size=cs.length then some (.val (.rc (cs.map (Col.part l.toNat (h.toNat - l.toNat)))),[decide (0≤l)=true,decide (l≤h)=true,decide (h≤(rowLen cs:Int))=true]) else none
   |_,_=>none
  |none=>none
 |_=>none
def LU (P:Program) (bk:Nat→Option dR) (t:TypeId) (id off n:Nat) (sz:Sz) (lo hi:Option D):Option OX:=
 match lo,hi with
 |none,some (.v (.int _ h))=>match P.underlying t with
  |some (.slice elem)=>match P.info? elem with
   |some j=>if sz.s=j.size then some (.val (.sl id off h.toNat ⟨sz.s,max n sz.r⟩),[decide (0≤h)=true,decide (h≤(n:Int))=true]) else none
   |none=>none
  |_=>nR (jS P bk t (.sl id off n sz) lo hi)
 |lo,hi=>nR (jS P bk t (.sl id off n sz) lo hi)
def XI (P:Program) (bk:Nat→Option dR) (t:TypeId) (x:D) (lo hi:Option D):Option OX:=
 match x with
 | .rc cs=>MH P t cs lo hi
 | .sl id off n sz=>LU P bk t id off n sz lo hi
 |x=>nR (jS P bk t x lo hi)
def OA (P:Program) (bk:Nat→Option dR) (ρ:Operand→D) (t:TypeId) (x:Operand) (lo hi mx:Option Operand):Option OX:=
 match mx with
 |none=>XI P bk t (ρ x) (lo.map ρ) (hi.map ρ)
 |some m=>nR (tH P t (ρ x) (lo.map ρ) (hi.map ρ) (ρ m))
def opX (P:Program) (bk:Nat→Option dR) (ρ:Operand→D) (ty:TypeId):Op→Option OX
 | .binOp op t x y _=>agE P op t x y (ρ x) (ρ y)
 | .indexAddr t x ix=>EU P t (ρ x) (ρ ix)
 | .index t x ix=>XW P t (ρ x) (ρ ix)
 | .slice t x lo hi mx=>OA P bk ρ t x lo hi mx
 |op=>nR (opF P bk ρ ty op)
section
variable {P:Program} {bk:Nat→Option dR} {ρ:Operand→D} {ty:TypeId}
theorem iq {e:Option Eff} {r:OX} (h:nR e=some r):e=some r.1:=by
 cases e with
 |none=>cases h
 |some e=>simp[nR] at h;subst h;rfl
theorem U1 {op:BinOp} {k k':IntKind} {p q:Int} {e:Eff} {l:List Prop} (h:ae2 op k k' p q=some (e,l)) (hl:aI l):(intD op k k' p q).map .val=some e:=by
 unfold ae2 at h
 split at h
 ·simp only[Option.some.injEq,Prod.mk.injEq] at h;obtain⟨rfl,rfl⟩:=h
  simp only[aI,decide_eq_true_eq,and_true] at hl
  simp[intD,hl]
 ·simp only[Option.some.injEq,Prod.mk.injEq] at h;obtain⟨rfl,rfl⟩:=h
  simp only[aI,decide_eq_true_eq,and_true] at hl
  simp[intD,hl]
 ·split at h
  next hk=>
   simp only[Option.some.injEq,Prod.mk.injEq] at h;obtain⟨rfl,rfl⟩:=h
   simp only[aI,decide_eq_false_iff_not,and_true] at hl
   simp[intD,hl,hk]
  ·cases h
 ·split at h
  next hk=>
   simp only[Option.some.injEq,Prod.mk.injEq] at h;obtain⟨rfl,rfl⟩:=h
   simp only[aI,decide_eq_false_iff_not,and_true] at hl
   simp[intD,hl,hk]
  ·cases h
 ·split at h
  next d hd=>simp only[Option.some.injEq,Prod.mk.injEq] at h;obtain⟨rfl,rfl⟩:=h;rw[hd];rfl
  ·cases h
theorem FT {op:Op} {e:Eff} {l:List Prop} (h:opX P bk ρ ty op=some (e,l)) (hl:aI l):dB P bk ρ ty op=some e:=by
 unfold opX at h
 split at h
 next bop t x y yt=>
  simp only[dB]
  unfold agE at h
  unfold Ul
  split at h
  next k p k' q ha hb=>rw[ha,hb];exact U1 h hl
  next a b hne=>
   have:=iq h
   split
   next k p k' q ha hb=>exact absurd hb (fun hb=>hne _ _ _ _ ha hb)
   ·exact this
 next t x ix=>
  simp only[dB]
  unfold EU at h
  unfold jr
  split at h
  next cs hx=>
   unfold Tm at h
   unfold xQ
   split at h
   next k i elem hi hu=>
    split at h
    ·cases h
    next j hj=>
     split at h
     next hs=>
      simp only[Option.some.injEq,Prod.mk.injEq] at h;obtain⟨rfl,rfl⟩:=h
      simp only[aI,decide_eq_true_eq,and_true] at hl
      simp only[hx,hu,hi,indexOf,hj,hs,hl.1,hl.2,and_self,if_true]
     ·cases h
   ·cases h
  next x' hne=>
   have:=iq h
   split
   next cs hx=>exact absurd hx (hne cs)
   ·exact this
 next t x ix=>
  simp only[dB]
  unfold XW at h
  split at h
  next s k i hx hi hu=>
   simp only[acY,Option.some.injEq,Prod.mk.injEq] at h;obtain⟨rfl,rfl⟩:=h
   simp only[aI,decide_eq_true_eq,and_true] at hl
   have hlt:i.toNat<s.size:=by omega
   have hg:s[i.toNat]? =some s[i.toNat]:=by rw[getElem?_pos]
   have he:(s.data.toList.map UInt8.toNat).getD i.toNat 0=(s[i.toNat]).toNat:=by
    rw[List.getD_eq_getElem?_getD,List.getElem?_map]
    have:s.data.toList[i.toNat]? =some s[i.toNat]:=by
     rw[List.getElem?_eq_getElem (by simpa using hlt)]
     rfl
    rw[this];rfl
   simp only[vY,hx,hi,indexOf,hu,hl.1,if_true,hg,he]
  ·exact iq h
 next t x lo hi mx=>
  unfold OA at h
  split at h
  next=>
   simp only[dB]
   unfold XI at h
   unfold sN
   split at h
   next cs hx=>
    unfold MH at h
    unfold yA
    split at h
    next elem hu=>
     split at h
     next j hj=>
      split at h
      next l' h' hlo hhi=>
       split at h
       next hs=>
        simp only[Option.some.injEq,Prod.mk.injEq] at h;obtain⟨rfl,rfl⟩:=h
        simp only[aI,decide_eq_true_eq,and_true] at hl
        obtain⟨h0,h1,h2⟩:=hl
        have b1:di (hi.map ρ) (rowLen cs) (rowLen cs)=some h'.toNat:=by
         cases hi with
         |none=>simp only[Option.map_none,hiX,Option.some.injEq] at hhi;subst hhi;simp[di]
         |some y=>
          simp only[Option.map_some,hiX] at hhi ⊢
          split at hhi
          next he=>simp at he
          next k v he=>simp only[Option.some.injEq] at hhi he;subst hhi;rw[he];simp only[di];rw[if_pos ⟨by omega,h2⟩]
          ·cases hhi
        have b2:di (lo.map ρ) 0 h'.toNat=some l'.toNat:=by
         cases lo with
         |none=>simp only[Option.map_none,loX,Option.some.injEq] at hlo;subst hlo;simp[di]
         |some y=>
          simp only[Option.map_some,loX] at hlo ⊢
          split at hlo
          next he=>simp at he
          next k v he=>simp only[Option.some.injEq] at hlo he;subst hlo;rw[he];simp only[di];rw[if_pos ⟨h0,by omega⟩]
          ·cases hlo
        simp only[hx,hu,hj,b1,b2,hs,if_true]
       ·cases h
      ·cases h
     ·cases h
    ·cases h
   next id off n sz hx=>
    have hgo:jS P bk t (.sl id off n sz) (lo.map ρ) (hi.map ρ)=some e:=by
     unfold LU at h
     split at h
     next k h' hlo hhi=>
      split at h
      next elem hu=>
       split at h
       next j hj=>
        split at h
        next hs=>
         simp only[Option.some.injEq,Prod.mk.injEq] at h;obtain⟨rfl,rfl⟩:=h
         simp only[aI,decide_eq_true_eq,and_true] at hl
         obtain⟨h0,h1⟩:=hl
         have b1:di (some (.v (.int k h'))) n (max n sz.r)=some h'.toNat:=by
          simp only[di];rw[if_pos ⟨h0,by omega⟩]
         simp only[jS,hu,hj,hlo,hhi,b1]
         simp[di,hs]
        ·cases h
       ·cases h
      ·exact iq h
     ·exact iq h
    split
    next cs hx'=>rw[hx] at hx';cases hx'
    ·rw[hx];exact hgo
   next x' hne hne2=>
    have:=iq h
    split
    next cs hx=>exact absurd hx (hne cs)
    ·exact this
  next m=>simp only[dB];exact iq h
 ·rw[←aec];exact iq h
end
end
end Go.Dam
end
