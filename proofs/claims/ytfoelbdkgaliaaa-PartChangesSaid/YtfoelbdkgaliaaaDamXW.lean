/- The engine: an abstract machine for the program's functions, proved right against the model. No condition. -/
import Derived.Test.YtfoelbdkgaliaaaDamXB
set_option linter.unusedSectionVars false
set_option linter.unusedVariables false
set_option linter.unusedSimpArgs false
section
namespace Go.Dam
open Go Go.RowKit
variable [gB]
theorem aid (hg:¬ Live) (cols:List aH):Reads (.sh (ah cols) (aA cols)) (.rc (cols.map aH.up)):=fun w A u hr=>by
 simp only[aC] at hr ⊢
 obtain⟨o,c,rfl,h1,h2,h3⟩:=hr
 refine⟨o,c,by rw[eu],fun h=>absurd h hg,by rw[eu];exact h1,by rw[eu];exact fun h=>h2 (.inl h),fun i j c' hi hc=>?_⟩
 rw[eu] at hi
 rw[List.getElem?_map,Option.map_eq_some_iff] at hc
 obtain⟨c0,hc0,rfl⟩:=hc
 obtain⟨ad,rfl,h4,_⟩:=h2 (.inl (by omega))
 simp only[Option.getD_some] at h3 ⊢
 obtain⟨x,k1,k2⟩:=(bC.tK (β:=fun _=>none) (fun d u h=>aC.rep d u h) h3).get h4 _ _ (kJ hi hc0)
 simp only[Rep,aC] at k2
 rw[List.length_map]
 exact⟨x,k1,by subst k2;cases c0<;>rfl⟩
noncomputable section
def dU (bk:List (Nat×BX)):Nat→D→Option (D×List Nat×List Prop)
 |_, .v x=>some (.v x,[],[])
 |_, .emp=>some (.emp,[],[])
 |_, .sh n cs=>some (.sh n cs,[],[])
 |_, .rc cs=>some (.rc cs,[],[])
 |k+1, .sl id off n sz=>match bP id bk with
  |none=>none
  |some (.cells cells _)=>if off+n*sz≤cells.length then
    match fU (dU bk k) ((cells.drop off).take (n*sz)) with
    |none=>none
    |some (cs,ids,l)=>some (.sh n cs,id::ids,l)
   else none
  |some (.row cols _)=>bif Nat.beq off 0 && (Nat.beq sz.s cols.length && !(gB.walked KT)) then some (.rc (cols.map aH.up),[id],[n=ah cols]) else none
 |k+1, .agg cs=>match fU (dU bk k) cs with
  |none=>none
  |some (ds,ids,l)=>some (.agg ds,ids,l)
 |_, .fn f []=>some (.fn f [],[],[])
 |_,_=>none
where
 fU (g:D→Option (D×List Nat×List Prop)):List D→Option (List D×List Nat×List Prop)
 |[]=>some ([],[],[])
 |d::ds=>match g d,fU g ds with
  |some (e,i,l),some (es,is,ls)=>some (e::es,i ++ is,l ++ ls)
  |_,_=>none
abbrev fU:=dU.fU
theorem fJ {g:D→Option (D×List Nat×List Prop)} {g':D→Option (D×List Nat)} (hg:∀ d e ids l,g d=some (e,ids,l)→aI l→∃ e',g' d=some (e',ids)∧Reads e' e):
  ∀ (ds es:List D) (ids:List Nat) (l:List Prop),fU g ds=some (es,ids,l)→aI l→∃ es',aN g' ds=some (es',ids)∧gu es' es
 |[],es,ids,l,h,_=>by
  simp[dU.fU] at h;obtain⟨rfl,rfl,rfl⟩:=h
  exact⟨[],rfl, .nil⟩
 |d::ds,es,ids,l,h,hl=>by
  simp only[dU.fU] at h
  split at h
  next e i l1 es' is l2 h1 h2=>
   simp at h;obtain⟨rfl,rfl,rfl⟩:=h
   rw[aW] at hl
   obtain⟨e',k1,k2⟩:=hg d e i l1 h1 hl.1
   obtain⟨es2,k3,k4⟩:=fJ hg ds es' is l2 h2 hl.2
   exact⟨e'::es2,by simp only[share.aN,k1];rw[show share.aN g' ds=some (es2,is) from k3], .cons k2 k4⟩
  ·cases h
theorem aaw (bk:Nat→Option dR) (k:Nat) (x:Value):share bk k (.v x)=some (.v x,[]):=by cases k<;>rfl
theorem wz (bk:Nat→Option dR) (k:Nat):∀ ds:List D,(∀ d∈ds,∃ x,d= .v x)→aN (share bk k) ds=some (ds,[])
 |[],_=>rfl
 |d::ds,h=>by
  obtain⟨x,rfl⟩:=h d (by simp)
  have ih:=wz bk k ds (fun d hd=>h d (by simp[hd]))
  simp only[share.aN,aaw]
  rw[show share.aN (share bk k) ds=some (ds,[]) from ih]
  rfl
theorem kR {bk:List (Nat×BX)}:∀ (k:Nat) (d e:D) (ids:List Nat) (l:List Prop),dU bk k d=some (e,ids,l)→aI l→∃ e',share (fun i=>bZ i bk) k d=some (e',ids)∧Reads e' e:=by
 intro k
 induction k with
 |zero=>
  intro d e ids l h hl
  cases d with
  |v x=>simp only[dU,Option.some.injEq,Prod.mk.injEq] at h;obtain⟨rfl,rfl,rfl⟩:=h;exact⟨_,by simp only[share], .refl _⟩
  |emp=>simp only[dU,Option.some.injEq,Prod.mk.injEq] at h;obtain⟨rfl,rfl,rfl⟩:=h;exact⟨_,by simp only[share], .refl _⟩
  |sh n cs=>simp only[dU,Option.some.injEq,Prod.mk.injEq] at h;obtain⟨rfl,rfl,rfl⟩:=h;exact⟨_,by simp only[share], .refl _⟩
  |rc cs=>simp only[dU,Option.some.injEq,Prod.mk.injEq] at h;obtain⟨rfl,rfl,rfl⟩:=h;exact⟨_,by simp only[share], .refl _⟩
  |fn f cs=>
   cases cs with
   |nil=>simp only[dU,Option.some.injEq,Prod.mk.injEq] at h;obtain⟨rfl,rfl,rfl⟩:=h;exact⟨_,by simp only[share], .refl _⟩
   |cons _ _=>simp[dU] at h
  |_=>simp[dU] at h
 |succ k ih=>
  intro d e ids l h hl
  cases d with
  |v x=>simp only[dU,Option.some.injEq,Prod.mk.injEq] at h;obtain⟨rfl,rfl,rfl⟩:=h;exact⟨_,by simp only[share], .refl _⟩
  |emp=>simp only[dU,Option.some.injEq,Prod.mk.injEq] at h;obtain⟨rfl,rfl,rfl⟩:=h;exact⟨_,by simp only[share], .refl _⟩
  |sh n cs=>simp only[dU,Option.some.injEq,Prod.mk.injEq] at h;obtain⟨rfl,rfl,rfl⟩:=h;exact⟨_,by simp only[share], .refl _⟩
  |rc cs=>simp only[dU,Option.some.injEq,Prod.mk.injEq] at h;obtain⟨rfl,rfl,rfl⟩:=h;exact⟨_,by simp only[share], .refl _⟩
  |fn f cs=>
   cases cs with
   |nil=>simp only[dU,Option.some.injEq,Prod.mk.injEq] at h;obtain⟨rfl,rfl,rfl⟩:=h;exact⟨_,by simp only[share], .refl _⟩
   |cons _ _=>simp[dU] at h
  |agg cs=>
   simp only[dU] at h
   split at h
   ·cases h
   next ds is l' h1=>
    simp at h;obtain⟨rfl,rfl,rfl⟩:=h
    obtain⟨es',k1,k2⟩:=fJ (fun d e ids l h hl=>ih d e ids l h hl) cs ds is l' h1 hl
    exact⟨.agg es',by simp only[share];rw[show share.aN (share _ k) cs=some (es',is) from k1],k2.agg⟩
  |sl id off n sz=>
   simp only[dU] at h
   split at h
   ·cases h
   next cells ro hb=>
    split at h
    next hle=>
     split at h
     ·cases h
     next cs is l' h1=>
      simp at h;obtain⟨rfl,rfl,rfl⟩:=h
      obtain⟨es',k1,k2⟩:=fJ (fun d e ids l h hl=>ih d e ids l h hl) _ cs is l' h1 hl
      exact⟨.sh n es',by simp only[share,dY hb];rw[if_pos hle,show share.aN (share _ k) _=some (es',is) from k1],k2.sh n⟩
    ·cases h
   next cols ro hb=>
    simp only[cond_eq_ite] at h
    split at h
    next hc=>
     simp only[Bool.and_eq_true,Bool.not_eq_true'] at hc
     simp only[Option.some.injEq,Prod.mk.injEq] at h;obtain⟨rfl,rfl,rfl⟩:=h
     obtain rfl:=Nat.eq_of_beq_eq_true hc.1
     have hsz:=Nat.eq_of_beq_eq_true hc.2.1
     have hg:¬ Live:=fun q=>by have:=hc.2.2;rw[q] at this;cases this
     simp only[aI,and_true] at hl
     subst hl
     have hlb:bZ id bk=some ⟨aA cols,ro⟩:=by unfold bZ;rw[hb];rfl
     have hlen:=aS cols
     refine⟨.sh (ah cols) (aA cols),?_,aid hg cols⟩
     simp only[share,hlb]
     rw[if_pos (by rw[hlen,hsz];omega),List.drop_zero,List.take_of_length_le (by rw[hlen,hsz];exact Nat.le_refl _),show share.aN (share _ k) _=some (aA cols,[]) from wz _ k _ fun d hd=>fA hd]
    ·cases h
  |_=>simp[dU] at h
mutual
def eH (id:Nat):D→D×List BX
 | .ow n sz cs=>(.sl id 0 n ⟨sz,0⟩,[.cells cs false])
 | .oc cs=>(.sl id 0 (ah cs) ⟨cs.length,0⟩,[.row cs false])
 | .agg cs=>(.agg (nT id cs).1,(nT id cs).2)
 | .bF cs=>(.bF (nT id cs).1,(nT id cs).2)
 |d=>(d,[])
def nT (id:Nat):List D→List D×List BX
 |[]=>([],[])
 |d::ds=>((eH id d).1::(nT (id+(eH id d).2.length) ds).1,(eH id d).2 ++ (nT (id+(eH id d).2.length) ds).2)
end
mutual
theorem vG:∀ (d:D) (id:Nat),(eH id d).1=(thaw id d).1∧(eH id d).2.map BX.blk=(thaw id d).2.map fun cs=>⟨cs,false⟩
 | .ow n sz cs,id=>by simp[eH,thaw,BX.blk]
 | .oc cs,id=>by simp[eH,thaw,BX.blk]
 | .agg cs,id=>by have:=sS cs id;simp only[eH,thaw,this.1,true_and];exact this.2
 | .bF cs,id=>by have:=sS cs id;simp only[eH,thaw,this.1,true_and];exact this.2
 | .undef,id=>by simp[eH,thaw]
 | .v _,id=>by simp[eH,thaw]
 | .emp,id=>by simp[eH,thaw]
 | .sh _ _,id=>by simp[eH,thaw]
 | .sl _ _ _ _,id=>by simp[eH,thaw]
 | .ptr _ _,id=>by simp[eH,thaw]
 | .pel _ _ _ _,id=>by simp[eH,thaw]
 | .shp _ _,id=>by simp[eH,thaw]
 | .fn _ _,id=>by simp[eH,thaw]
 | .yld,id=>by simp[eH,thaw]
 | .rc _,id=>by simp[eH,thaw]
theorem sS:∀ (ds:List D) (id:Nat),(nT id ds).1=(l9 id ds).1∧(nT id ds).2.map BX.blk=(l9 id ds).2.map fun cs=>⟨cs,false⟩
 |[],id=>by simp[nT,l9]
 |d::ds,id=>by
  have h1:=vG d id
  have hlen:(eH id d).2.length=(thaw id d).2.length:=by have:=congrArg List.length h1.2;simpa using this
  have h2:=sS ds (id+(eH id d).2.length)
  rw[hlen] at h2
  simp only[nT,l9,hlen,h1.1,h2.1,List.map_append,h1.2,h2.2,and_self]
end
def kD (c:Cf) (id:Nat):List BX→Cf
 |[]=>c
 |b::bs=>kD ((c.forget id).setB id b) (id+1) bs
theorem rW:∀ (bs:List BX) (cs:List (List D)) (c:Cf) (id:Nat),bs.map BX.blk=cs.map (fun cs=>⟨cs,false⟩)→(kD c id bs).abs=gY c.abs id cs
 |[],[],_,_,_=>rfl
 |b::bs,x::cs,c,id,h=>by
  simp only[List.map_cons,List.cons.injEq] at h
  simp only[kD,gY,rW bs cs _ _ h.2,bD,bW,h.1]
 |[],_::_,_,_,h=>by simp at h
 |_::_,[],_,_,h=>by simp at h
inductive Con where
 |call (g:List D→Option (D×List Prop))
 |ext (g:List Value→Option (Value×List Prop))
 |own (g:IntKind→List Int→Value→Value→Option (List Int×List Prop))
abbrev aB:=FuncId→Option Con
structure bG (P:Program) (X:aB):Prop where
 call:∀ f g,X f=some (.call g)→∀ args res l,g args=some (res,l)→aI l→CallsD P f args res
 ext:∀ f g,X f=some (.ext g)→∀ vs u l,g vs=some (u,l)→aI l→dA P (callFunc f vs.toArray)=some (.value u)
 own:∀ f g,X f=some (.own g)→∀ k xs a x ys l,g k xs a x=some (ys,l)→aI l→NV P f (xs.map (.int k)) a x (ys.map (.int k))
def abB (P:Program) (X:aB) (f:FuncId) (vs:List Value):Option (Value×List Prop):=
 match X f with
 |some (.ext g)=>g vs
 |_=>match dA P (callFunc f vs.toArray) with
  |some (.value u)=>some (u,[])
  |_=>none
theorem G9 {P:Program} {X:aB} (hX:bG P X) {f:FuncId} {vs:List Value} {u:Value} {l:List Prop} (h:abB P X f vs=some (u,l)) (hl:aI l):dA P (callFunc f vs.toArray)=some (.value u):=by
 unfold abB at h
 split at h
 next g hg=>exact hX.ext f g hg vs u l h hl
 ·split at h
  next u' hu=>simp only[Option.some.injEq,Prod.mk.injEq] at h;obtain⟨rfl,rfl⟩:=h;exact hu
  ·cases h
def callOf (X:aB) (f:FuncId):Option (List D→Option (D×List Prop)):=
 match X f with
 |some (.call g)=>some g
 |_=>none
theorem AB {X:aB} {f:FuncId} {g:List D→Option (D×List Prop)} (h:callOf X f=some g):X f=some (.call g):=by
 unfold callOf at h
 split at h
 next g' hg=>simp only[Option.some.injEq] at h;subst h;exact hg
 ·cases h
def YP (X:List D→Option (D×List Prop)) (c:Cf) (dst:Option Tmp) (id:Nat) (args:List D):Option Cf:=
 match fU (dU c.bk depth) args with
 |none=>none
 |some (as,passed,l)=>match X as with
  |none=>none
  |some (res,l')=>some (((kD (bif flat res then c else c.eU passed) id (eH id res).2).put dst (eH id res).1).Gl (l ++ l'))
@[simp] theorem dZ (c:Cf) (dst:Option Tmp) (d:D):(c.put dst d).cds=c.cds:=by cases dst<;>rfl
@[simp] theorem jh (c:Cf) (i:Nat) (b:BX):(c.setB i b).cds=c.cds:=rfl
@[simp] theorem af2 (c:Cf) (i:Nat):(c.forget i).cds=c.cds:=rfl
@[simp] theorem ajs (c:Cf) (ids:List Nat):(c.eU ids).cds=c.cds:=rfl
@[simp] theorem eX (c:Cf) (l:List Prop):(c.Gl l).cds=l ++ c.cds:=rfl
@[simp] theorem FB:∀ (bs:List BX) (c:Cf) (id:Nat),(kD c id bs).cds=c.cds
 |[],_,_=>rfl
 |b::bs,c,id=>by simp[kD,FB bs]
theorem QD {P:Program} {X:List D→Option (D×List Prop)} {f:FuncId} (hX:∀ args res l,X args=some (res,l)→aI l→CallsD P f args res) {c c':Cf} {dst:Option Tmp} {id:Nat} {args:List D}
  (h:YP X c dst id args=some c') (hl:aI c'.cds):aI c.cds∧WQ (CallsD P) c.abs dst id f args c'.abs:=by
 unfold YP at h
 split at h
 ·cases h
 next as passed l h1=>
  split at h
  ·cases h
  next res l' h2=>
   simp only[Option.some.injEq] at h;subst h
   have hc:aI (l ++ l' ++ c.cds):=by
    have:=hl
    simp only[eX,dZ,FB] at this
    cases hf:flat res<;>simpa [hf] using this
   rw[aW,aW] at hc
   obtain⟨⟨hl1,hl2⟩,hl3⟩:=hc
   obtain⟨as',k1,k2⟩:=fJ (fun d e ids l h hl=>kR depth d e ids l h hl) args as passed l h1 hl1
   refine⟨hl3,as',passed,res,k1,fun w A vs hv low glo=>hX as res l' h2 hl2 w A vs (k2.aas hv) low glo,?_⟩
   have ht:=vG res id
   rw[iO,bJ,rW _ _ _ _ ht.2,ht.1]
   cases flat res<;>simp[Yj]
end
end Go.Dam
end

section
namespace Go.Dam
open Go Go.RowKit
variable [gB]
noncomputable section
theorem UJ {cols:List aH} {i j sz:Nat} (hi:i<ah cols) (hj:j+sz≤cols.length):
  ((aA cols).drop (i*cols.length+j)).take sz=((cols.drop j).take sz).map (fun c=>D.v (c.val i)):=by
 apply List.ext_getElem?
 intro k
 rw[List.getElem?_take,List.getElem?_map,List.getElem?_take]
 by_cases hk:k<sz
 ·rw[if_pos hk,if_pos hk,List.getElem?_drop,List.getElem?_drop]
  have hjk:j+k<cols.length:=by omega
  have hc:cols[j+k]? =some cols[j+k]:=List.getElem?_eq_getElem hjk
  rw[Nat.add_assoc,kJ hi hc,hc];rfl
 ·rw[if_neg hk,if_neg hk];rfl
def aH.setAt (i:Nat) (d:D):aH→Option aH
 | .ints k xs=>match d with
  | .v (.int k' n)=>if k'=k then some (.ints k (xs.set i n)) else none
  |_=>none
 | .bools xs=>match d with
  | .v (.bool b)=>some (.bools (xs.set i b))
  |_=>none
def lC (i:Nat):List aH→Nat→List D→Option (List aH)
 |cs,_,[]=>some cs
 |c::cs,0,d::ds=>match c.setAt i d,lC i cs 0 ds with
  |some c',some cs'=>some (c'::cs')
  |_,_=>none
 |c::cs,j+1,d::ds=>match lC i cs j (d::ds) with
  |some cs'=>some (c::cs')
  |none=>none
 |[],_,_::_=>none
def qJ (n:Nat):List aH→List Prop
 |[]=>[]
 |c::cs=>(c.len=n)::qJ n cs
theorem kF {n:Nat}:∀ {cs:List aH},aI (qJ n cs)→∀ c∈cs,c.len=n
 |[],_,_,h=>by cases h
 |c::cs,h,c',hc=>by
  obtain⟨h1,h2⟩:=h
  rcases List.mem_cons.1 hc with rfl | hc
  ·exact h1
  ·exact kF h2 c' hc
theorem U8 {i:Nat} {d:D} {c c':aH} (h:c.setAt i d=some c') (hi:i<c.len):c'.len=c.len∧(∀ k,D.v (c'.val k)=if k=i then d else D.v (c.val k)):=by
 cases c with
 |ints k xs=>
  simp only[aH.setAt] at h
  split at h
  ·split at h
   next e=>
    simp at h;subst h;subst e
    refine⟨by simp[aH.len],fun m=>?_⟩
    simp only[aH.val,List.getD_eq_getElem?_getD,List.getElem?_set]
    by_cases em:m=i
    ·subst em;simp only[aH.len] at hi;simp[hi]
    ·rw[if_neg em,if_neg (Ne.symm em)]
   ·cases h
  ·cases h
 |bools xs=>
  simp only[aH.setAt] at h
  split at h
  ·simp at h;subst h
   refine⟨by simp[aH.len],fun m=>?_⟩
   simp only[aH.val,List.getD_eq_getElem?_getD,List.getElem?_set]
   by_cases em:m=i
   ·subst em;simp only[aH.len] at hi;simp[hi]
   ·rw[if_neg em,if_neg (Ne.symm em)]
  ·cases h
theorem oW {i n:Nat}:∀ {cs:List aH} {j:Nat} {ds:List D} {cs':List aH},lC i cs j ds=some cs'→(∀ c∈cs,c.len=n)→i<n→
  cs'.length=cs.length∧(∀ c∈cs',c.len=n)∧j+ds.length≤cs.length+(if ds=[] then j else 0)∧
   ∀ (b k:Nat) (c':aH),cs'[b]? =some c'→∃ c,cs[b]? =some c∧D.v (c'.val k)=if k=i∧j≤b∧b<j+ds.length then ds.getD (b - j) .undef else D.v (c.val k)
 |cs,j,[],cs',h,hl,hi=>by
  simp[lC] at h;subst h
  refine⟨rfl,hl,by simp,fun b k c' hb=>⟨c',hb,?_⟩⟩
  rw[if_neg (by simp)]
 |[],_,_::_,_,h,_,_=>by simp[lC] at h
 |c::cs,0,d::ds,cs',h,hl,hi=>by
  simp only[lC] at h
  split at h
  next c1 cs1 h1 h2=>
   simp at h;subst h
   obtain⟨a1,a2⟩:=U8 h1 (by rw[hl c (by simp)];exact hi)
   obtain⟨b1,b2,b3,b4⟩:=oW h2 (fun c hc=>hl c (by simp[hc])) hi
   refine⟨by simp[b1],fun c' hc=>?_,?_,fun b k c' hb=>?_⟩
   ·rcases List.mem_cons.1 hc with rfl | hc
    ·rw[a1];exact hl c (by simp)
    ·exact b2 c' hc
   ·rw[if_neg (by simp)]
    simp only[List.length_cons]
    split at b3<;>omega
   ·cases b with
    |zero=>
     simp at hb;subst hb
     refine⟨c,rfl,?_⟩
     rw[a2 k]
     by_cases ek:k=i
     ·rw[if_pos ek,if_pos ⟨ek,by omega,by simp⟩];simp
     ·rw[if_neg ek,if_neg (fun e=>ek e.1)]
    |succ b=>
     simp at hb
     obtain⟨c2,k1,k2⟩:=b4 b k c' hb
     refine⟨c2,by simpa using k1,?_⟩
     rw[k2]
     by_cases ek:k=i∧b<ds.length
     ·rw[if_pos ⟨ek.1,by omega,by omega⟩,if_pos ⟨ek.1,by omega,by simp;omega⟩]
      simp
     ·rw[if_neg (fun e=>ek ⟨e.1,by omega⟩),if_neg (fun e=>ek ⟨e.1,by simp at e;omega⟩)]
  ·cases h
 |c::cs,j+1,d::ds,cs',h,hl,hi=>by
  simp only[lC] at h
  split at h
  next cs1 h2=>
   simp at h;subst h
   obtain⟨b1,b2,b3,b4⟩:=oW h2 (fun c hc=>hl c (by simp[hc])) hi
   refine⟨by simp[b1],fun c' hc=>?_,?_,fun b k c' hb=>?_⟩
   ·rcases List.mem_cons.1 hc with rfl | hc
    ·exact hl c' (by simp)
    ·exact b2 c' hc
   ·rw[if_neg (by simp)] at b3 ⊢
    simp only[List.length_cons] at b3 ⊢
    omega
   ·cases b with
    |zero=>
     simp at hb;subst hb
     refine⟨c,rfl,?_⟩
     rw[if_neg (by omega)]
    |succ b=>
     simp at hb
     obtain⟨c2,k1,k2⟩:=b4 b k c' hb
     refine⟨c2,by simpa using k1,?_⟩
     rw[k2]
     by_cases ek:k=i∧j≤b∧b<j+(d::ds).length
     ·rw[if_pos ek,if_pos ⟨ek.1,by omega,by omega⟩]
      congr 1;omega
     ·rw[if_neg ek,if_neg (fun e=>ek ⟨e.1,by omega,by omega⟩)]
  ·cases h
theorem fK {n:Nat}:∀ {cs:List aH},cs≠[]→(∀ c∈cs,c.len=n)→ah cs=n
 |[],h,_=>absurd rfl h
 |c::cs,_,h=>h c (by simp)
theorem uV {i n j:Nat} {cs cs':List aH} {ds:List D} (hne:cs≠[]) (h:lC i cs j ds=some cs') (hl:∀ c∈cs,c.len=n) (hi:i<n) (hd:j+ds.length≤cs.length):
  aA cs'=splice (aA cs) (i*cs.length+j) ds:=by
 obtain⟨h1,h2,_,h4⟩:=oW h hl hi
 have hne':cs'≠[]:=fun e=>hne (List.length_eq_zero_iff.1 (by rw[←h1,e];rfl))
 have e1:=fK hne hl
 have e2:=fK hne' h2
 have hw:0<cs.length:=List.length_pos_iff.2 hne
 have hlen:i*cs.length+j+ds.length≤(aA cs).length:=by
  rw[aS,e1]
  have:(i+1)*cs.length≤n*cs.length:=Nat.mul_le_mul_right _ hi
  rw[Nat.add_mul,Nat.one_mul] at this
  omega
 apply List.ext_getElem?
 intro m
 rw[vS hlen,jI,jI,e1,e2,h1]
 by_cases hm:m<n*cs.length
 ·rw[if_pos hm,if_pos hm]
  have hb:m%cs.length<cs.length:=Nat.mod_lt _ hw
  have hc:cs'[m%cs.length]? =some (cs'[m%cs.length]'(by rw[h1];exact hb)):=List.getElem?_eq_getElem _
  obtain⟨c,k1,k2⟩:=h4 (m%cs.length) (m / cs.length) _ hc
  rw[hc,k1]
  simp only[Option.map_some,k2]
  have hdm:=Nat.div_add_mod m cs.length
  by_cases ek:m / cs.length=i∧j≤m%cs.length∧m%cs.length<j+ds.length
  ·obtain⟨x1,x2,x3⟩:=ek
   rw[x1,Nat.mul_comm] at hdm
   rw[if_pos ⟨x1,x2,x3⟩,if_pos (by omega)]
   rw[show m - (i*cs.length+j)=m%cs.length - j by omega]
   rw[List.getD_eq_getElem?_getD,List.getElem?_eq_getElem (by omega)]
   rfl
  ·rw[if_neg ek,if_neg ?_]
   rintro⟨y1,y2⟩
   apply ek
   have hq:m / cs.length=i:=by
    apply Nat.div_eq_of_lt_le
    ·omega
    ·rw[Nat.add_mul,Nat.one_mul];omega
   rw[hq,Nat.mul_comm] at hdm
   exact⟨hq,by omega,by omega⟩
 ·rw[if_neg hm,if_neg hm,if_neg ?_]
  rintro⟨y1,y2⟩
  rw[aS,e1] at hlen
  omega
end
end Go.Dam
end

section
namespace Go.Dam
open Go Go.RowKit
variable [gB]
noncomputable section
def KI (P:Program) (t:TypeId) (cols:List aH) (i w j:Nat):Option (D×List Prop):=
 match Td P t with
 |none=>none
 |some (sz,d)=>bif Nat.beq w cols.length then
   bif af0 d then(bif Nat.blt 0 sz && Nat.ble (j+sz) cols.length then some (.agg (((cols.drop j).take sz).map (fun c=>D.v (c.val i))),[i<ah cols]) else none)
   else match cols[j]? with
    |some c=>some (.v (c.val i),[i<ah cols])
    |none=>none
  else none
theorem JX {P:Program} {t:TypeId} {cols:List aH} {i w j:Nat} {d:D} {l:List Prop} (h:KI P t cols i w j=some (d,l)) (hl:aI l):takeD P t (aA cols) (i*w+j)=some d:=by
 unfold KI at h
 unfold takeD
 split at h
 ·cases h
 next sz td hi=>
  simp only[cond_eq_ite] at h
  rw[hi]
  simp only[]
  split at h
  next hw=>
   obtain rfl:=Nat.eq_of_beq_eq_true hw
   split at h
   next ha=>
    split at h
    next hb=>
     simp only[Option.some.injEq,Prod.mk.injEq] at h;obtain⟨rfl,rfl⟩:=h
     simp only[Bool.and_eq_true] at hb
     have b1:0<sz:=by have:=hb.1;simpa [Nat.blt_eq] using this
     have b2:j+sz≤cols.length:=Nat.le_of_ble_eq_true hb.2
     have hlt:i<ah cols:=hl.1
     rw[if_pos ha]
     rw[if_pos ⟨b1,by
      rw[aS]
      have:(i+1)*cols.length≤ah cols*cols.length:=Nat.mul_le_mul_right _ hlt
      rw[Nat.add_mul,Nat.one_mul] at this
      omega⟩,UJ hlt b2]
    ·cases h
   next ha=>
    rw[if_neg ha]
    split at h
    next c hc=>
     simp only[Option.some.injEq,Prod.mk.injEq] at h;obtain⟨rfl,rfl⟩:=h
     exact kJ hl.1 hc
    ·cases h
  ·cases h
theorem gm {cols:List aH}:(aA cols).all D.one=true:=by
 rw[List.all_eq_true]
 intro d hd
 simp only[aA,gX,List.mem_flatMap,List.mem_map,List.map_map,Function.comp] at hd
 obtain⟨i,_,c,_,rfl⟩:=hd
 cases c<;>rfl
def aH.join:aH→aH→Option aH
 | .ints k xs, .ints k' ys=>if k'=k then some (.ints k (xs ++ ys)) else none
 | .bools xs, .bools ys=>some (.bools (xs ++ ys))
 |_,_=>none
def jk:List aH→List aH→Option (List aH)
 |[],[]=>some []
 |c::cs,d::ds=>match c.join d,jk cs ds with
  |some e,some es=>some (e::es)
  |_,_=>none
 |_,_=>none
theorem yh {α:Type} (xs ys:List α) (k:Nat) (z:α):(xs ++ ys).getD k z=if k<xs.length then xs.getD k z else ys.getD (k - xs.length) z:=by
 rw[List.getD_eq_getElem?_getD]
 split
 next h=>rw[List.getElem?_append_left h,List.getD_eq_getElem?_getD]
 next h=>rw[List.getElem?_append_right (by omega),List.getD_eq_getElem?_getD]
theorem Xt {c d e:aH} (h:c.join d=some e):e.len=c.len+d.len∧∀ k,e.val k=if k<c.len then c.val k else d.val (k - c.len):=by
 cases c<;>cases d<;>simp only[aH.join] at h
 ·split at h
  next ek=>
   simp at h;subst h;subst ek
   refine⟨by simp[aH.len],fun k=>?_⟩
   simp only[aH.val,aH.len,yh]
   split<;>(rename_i hh;simp only[hh,if_true,if_false])
  ·cases h
 ·cases h
 ·cases h
 ·simp at h;subst h
  refine⟨by simp[aH.len],fun k=>?_⟩
  simp only[aH.val,aH.len,yh]
  split<;>(rename_i hh;simp only[hh,if_true,if_false])
theorem uQ:∀ {cs ds es:List aH} {n m:Nat},jk cs ds=some es→(∀ c∈cs,c.len=n)→(∀ d∈ds,d.len=m)→
  es.length=cs.length∧ds.length=cs.length∧(∀ e∈es,e.len=n+m)∧∀ (b:Nat) (e:aH),es[b]? =some e→∃ c d,cs[b]? =some c∧ds[b]? =some d∧∀ k,k<n+m→e.val k=if k<n then c.val k else d.val (k - n)
 |[],[],es,n,m,h,_,_=>by simp[jk] at h;subst h;exact⟨rfl,rfl,by simp,by simp⟩
 |[],_::_,es,n,m,h,_,_=>by simp[jk] at h
 |_::_,[],es,n,m,h,_,_=>by simp[jk] at h
 |c::cs,d::ds,es,n,m,h,h1,h2=>by
  simp only[jk] at h
  split at h
  next e es' he hes=>
   simp at h;subst h
   obtain⟨a1,a2⟩:=Xt he
   obtain⟨b1,b2,b3,b4⟩:=uQ hes (fun c hc=>h1 c (by simp[hc])) (fun d hd=>h2 d (by simp[hd]))
   have c1:=h1 c (by simp)
   have d1:=h2 d (by simp)
   refine⟨by simp[b1],by simp[b2],fun e' he'=>?_,fun b e' hb=>?_⟩
   ·rcases List.mem_cons.1 he' with rfl | he'
    ·omega
    ·exact b3 e' he'
   ·cases b with
    |zero=>
     simp at hb;subst hb
     exact⟨c,d,rfl,rfl,fun k hk=>by rw[a2 k,c1]⟩
    |succ b=>
     simp at hb
     obtain⟨c',d',k1,k2,k3⟩:=b4 b e' hb
     exact⟨c',d',by simpa using k1,by simpa using k2,k3⟩
  ·cases h
theorem mG {cs ds es:List aH} {n m:Nat} (hne:cs≠[]) (h:jk cs ds=some es) (h1:∀ c∈cs,c.len=n) (h2:∀ d∈ds,d.len=m):aA es=aA cs ++ aA ds:=by
 obtain⟨a1,a2,a3,a4⟩:=uQ h h1 h2
 have hw:0<cs.length:=List.length_pos_iff.2 hne
 have hne':es≠[]:=fun e=>hne (List.length_eq_zero_iff.1 (by rw[←a1,e];rfl))
 have hne2:ds≠[]:=fun e=>hne (List.length_eq_zero_iff.1 (by rw[←a2,e];rfl))
 have e1:=fK hne h1
 have e2:=fK hne2 h2
 have e3:=fK hne' a3
 apply List.ext_getElem?
 intro x
 rw[jI,a1,e3]
 by_cases hx:x<(n+m)*cs.length
 ·rw[if_pos hx]
  have hb:x%cs.length<es.length:=by rw[a1];exact Nat.mod_lt _ hw
  have he:es[x%cs.length]? =some es[x%cs.length]:=List.getElem?_eq_getElem hb
  obtain⟨c,d,k1,k2,k3⟩:=a4 _ _ he
  have hq:x / cs.length<n+m:=by rw[Nat.div_lt_iff_lt_mul hw];exact hx
  rw[he,Option.map_some,k3 _ hq]
  by_cases hc:x<n*cs.length
  ·have hqn:x / cs.length<n:=by rw[Nat.div_lt_iff_lt_mul hw];exact hc
   rw[List.getElem?_append_left (by rw[aS,e1];exact hc),jI,e1,if_pos hc,k1,if_pos hqn];rfl
  ·have hqn:¬ x / cs.length<n:=fun q=>hc (by rw[Nat.div_lt_iff_lt_mul hw] at q;exact q)
   rw[List.getElem?_append_right (by rw[aS,e1];omega),aS,e1,jI,e2,a2]
   have ex:x=n*cs.length+(x - n*cs.length):=by omega
   have em:(x - n*cs.length)%cs.length=x%cs.length:=by
    rw[←Nat.mul_add_mod cs.length n (x - n*cs.length)]
    congr 1
    rw[Nat.mul_comm];omega
   have ed:(x - n*cs.length) / cs.length=x / cs.length - n:=by
    have:=Nat.mul_add_div hw n (x - n*cs.length)
    rw[show cs.length*n+(x - n*cs.length)=x by rw[Nat.mul_comm];omega] at this
    omega
   have hx2:x - n*cs.length<m*cs.length:=by
    rw[Nat.add_mul] at hx
    omega
   rw[if_pos hx2,em,ed,k2,if_neg hqn];rfl
 ·rw[if_neg hx]
  symm
  apply List.getElem?_eq_none
  rw[List.length_append,aS,aS,e1,e2,a2,←Nat.add_mul]
  omega
def aH.like (d:D):aH→Option aH
 | .ints k _=>match d with
  | .v (.int k' n)=>if k'=k then some (.ints k [n]) else none
  |_=>none
 | .bools _=>match d with
  | .v (.bool b)=>some (.bools [b])
  |_=>none
def jU:List aH→List D→Option (List aH)
 |[],[]=>some []
 |c::cs,d::ds=>match c.like d,jU cs ds with
  |some e,some es=>some (e::es)
  |_,_=>none
 |_,_=>none
theorem ZK {d:D} {c e:aH} (h:c.like d=some e):e.len=1∧D.v (e.val 0)=d:=by
 cases c<;>simp only[aH.like] at h<;>split at h
 ·split at h
  ·simp at h;subst h;subst_vars;exact⟨rfl,rfl⟩
  ·cases h
 ·cases h
 ·simp at h;subst h;exact⟨rfl,rfl⟩
 ·cases h
theorem kM:∀ {cs es:List aH} {ds:List D},jU cs ds=some es→es.length=cs.length∧(∀ e∈es,e.len=1)∧es.map (fun e=>D.v (e.val 0))=ds
 |[],es,[],h=>by simp[jU] at h;subst h;exact⟨rfl,by simp,rfl⟩
 |[],es,_::_,h=>by simp[jU] at h
 |_::_,es,[],h=>by simp[jU] at h
 |c::cs,es,d::ds,h=>by
  simp only[jU] at h
  split at h
  next e es' he hes=>
   simp at h;subst h
   obtain⟨a1,a2⟩:=ZK he
   obtain⟨b1,b2,b3⟩:=kM hes
   refine⟨by simp[b1],fun e' he'=>?_,by simp[a2,b3]⟩
   rcases List.mem_cons.1 he' with rfl | he'
   ·exact a1
   ·exact b2 e' he'
  ·cases h
theorem rV {cs es:List aH} {ds:List D} (hne:cs≠[]) (h:jU cs ds=some es):aA es=ds:=by
 obtain⟨a1,a2,a3⟩:=kM h
 have hne':es≠[]:=fun e=>hne (List.length_eq_zero_iff.1 (by rw[←a1,e];rfl))
 have e1:=fK hne' a2
 unfold aA gX
 rw[eu,e1]
 simp only[List.range_one,List.flatMap_cons,List.flatMap_nil,List.append_nil,List.map_map]
 rw[←a3]
 apply List.map_congr_left
 intro c _
 cases c<;>rfl
end
end Go.Dam
end

section
namespace Go.Dam
open Go Go.RowKit
variable [gB]
noncomputable section
section
variable {w:World} {A:Nat→Prop} {β:Env} {base:Nat} {σ:St} {tmps:Array Value} {acts:List (Array Value)}
theorem Rel.again (h:Rel w A β base σ tmps acts) (i:Nat) {b:dR} (hb:σ.bk i=some b) (k:Nat):Rel w A β base ((σ.forget i).setB i ⟨b.cells.take k,b.ro⟩) tmps acts:=by
 have h1:=h.forget i
 refine⟨h1.fr,h1.stk,fun k b' hk=>?_,fun x y a c hx hy ha hc hac=>?_,h1.low,h1.top,h1.glo,h1.lp⟩
 ·simp only[St.setB] at hk
  split at hk
  next e=>
   simp at hk;subst hk;subst e
   rcases h.blk _ b hb with⟨k1,k2⟩ | ⟨ad,k1,k2⟩
   ·exact .inl ⟨k1,by simp[k2]⟩
   ·exact .inr ⟨ad,k1,⟨k2.spot,k2.base,k2.obj,k2.cells.take k2.spot _,k2.own,k2.shared,k2.inside⟩⟩
  next e=>exact h1.blk _ b' hk
 ·refine h.inj x y a c ?_ ?_ ha hc hac
  ·by_cases e:x=i
   ·subst e;simp[hb]
   ·simp only[St.setB,if_neg e,St.forget] at hx;intro q;simp[q] at hx
  ·by_cases e:y=i
   ·subst e;simp[hb]
   ·simp only[St.setB,if_neg e,St.forget] at hy;intro q;simp[q] at hy
end
theorem LW {σ:St} {t i:Nat} {b:dR} {n off k:Nat} {sz:Sz} {s:Nat} (hb:σ.bk i=some b) (hs:sz.s=s):dL (σ.put (some t) (.sl i off n sz)) (((σ.forget i).setB i ⟨b.cells.take k,b.ro⟩).put (some t) (.sl i off n ⟨s,0⟩)):=by
 intro w A β base tmps acts h
 refine⟨β,?_⟩
 rw[←qI σ t i (.sl i off n sz) _ ⟨b.cells.take k,b.ro⟩]
 have h1:=h.again i (b:=b) hb k
 refine h1.Fj t _ fun hl=>?_
 have hl:t<σ.fr.nt:=hl
 have hu:=h.fr.tm t
 have e:((σ.put (some t) (.sl i off n sz)).fr.tm t)= .sl i off n sz:=by
  show(if t=t then(if t<σ.fr.nt then D.sl i off n sz else .undef) else σ.fr.tm t)=_
  rw[if_pos rfl,if_pos hl]
 rw[e] at hu
 simp only[Rep] at hu ⊢
 obtain⟨o,c,hu,hc⟩:=hu
 refine⟨o,c,hu,?_⟩
 subst hs
 rcases hc with⟨h2,h3⟩ | ⟨h2,ad,h3,h4,h5⟩
 ·exact .inl ⟨by omega,h3⟩
 ·exact .inr ⟨by show max n 0≤c;omega,ad,h3,h4,h5⟩
theorem Xj (σ:St) (t i:Nat) (d:D) (b:dR):(((σ.forget i).setB i b).Fj t d)=(((σ.forget i).setB i b).put (some t) d):=rfl
theorem DY {σ:St} {t i:Nat} {s:Nat} (hx:σ.fr.tm t= .emp∨σ.fr.tm t= .v (.slice none 0 0)):dL σ (((σ.forget i).setB i ⟨[],false⟩).put (some t) (.sl i 0 0 ⟨s,0⟩)):=by
 intro w A β base tmps acts h
 obtain⟨β',hb',h1⟩:=h.empty i
 refine⟨β',?_⟩
 rw[←Xj σ t i _ ⟨[],false⟩]
 refine h1.Fj t _ fun hl=>?_
 have hu:=h.fr.tm t
 simp only[Rep]
 rcases hx with e | e
 ·rw[e] at hu
  simp only[Rep,aC] at hu
  obtain⟨ad,hu⟩:=hu
  exact⟨some ad,0,hu, .inl ⟨by simp,rfl⟩⟩
 ·rw[e] at hu
  simp only[Rep,aC] at hu
  exact⟨none,0,hu, .inl ⟨by simp,rfl⟩⟩
theorem Rel.afe {w:World} {A:Nat→Prop} {β:Env} {base:Nat} {σ:St} {tmps:Array Value} {acts:List (Array Value)} (h:Rel w A β base σ tmps acts) {b off:Nat} {d:D} {cs:List D} {ro:Bool} (hb:σ.bk b=some ⟨cs,ro⟩)
  (hd:∀ ad u,β b=some ad→w.cell? (aG ad off)=some u→Rep w A β d u):Rel w A β base (σ.setB b ⟨cs.set off d,ro⟩) tmps acts:=by
 refine⟨h.fr,h.stk,fun k b' hk=>?_,fun x y a c hx hy ha hc hac=>?_,h.low,h.top,h.glo,h.lp⟩
 ·simp only[St.setB] at hk
  split at hk
  next e=>
   simp at hk;subst hk;subst e
   rcases h.blk _ _ hb with⟨k1,k2⟩ | ⟨ad,k1,k2⟩
   ·simp only at k2
    exact .inl ⟨k1,by simp[k2]⟩
   ·refine .inr ⟨ad,k1,⟨k2.spot,k2.base,k2.obj,?_,k2.own,k2.shared,k2.inside⟩⟩
    have hcs:=k2.cells
    simp only at hcs ⊢
    refine aZ.nS k2.spot fun j d' hj=>?_
    rw[List.getElem?_set] at hj
    split at hj
    next ej=>
     split at hj
     next hl=>
      simp at hj;subst hj;subst ej
      obtain⟨u,q1,_⟩:=hcs.get k2.spot off _ (List.getElem?_eq_getElem hl)
      exact⟨u,q1,hd ad u k1 q1⟩
     ·cases hj
    ·exact hcs.get k2.spot j d' hj
  next e=>exact h.blk _ b' hk
 ·refine h.inj x y a c ?_ ?_ ha hc hac
  ·by_cases e:x=b
   ·subst e;simp[hb]
   ·simpa only[St.setB,if_neg e] using hx
  ·by_cases e:y=b
   ·subst e;simp[hb]
   ·simpa only[St.setB,if_neg e] using hy
theorem AY {σ:St} {b off i:Nat} {s:Nat} {cs:List D} {ro:Bool} (hbi:b≠i) (hb:σ.bk b=some ⟨cs,ro⟩) (hx:cs[off]? =some .emp∨cs[off]? =some (.v (.slice none 0 0))):
  dL σ (((σ.forget i).setB i ⟨[],false⟩).setB b ⟨(cs.map (D.forget i)).set off (.sl i 0 0 ⟨s,0⟩),ro⟩):=by
 intro w A β base tmps acts h
 obtain⟨β',hb',h1,hsame⟩:=h.empty' i
 refine⟨β',?_⟩
 have hb2:((σ.forget i).setB i ⟨[],false⟩).bk b=some ⟨cs.map (D.forget i),ro⟩:=by
  simp only[St.setB,if_neg hbi,St.forget,hb,Option.map_some];rfl
 refine h1.afe hb2 fun ad u had hu=>?_
 rw[hsame b hbi] at had
 rcases h.blk _ _ hb with⟨k1,_⟩ | ⟨ad',k1,k2⟩
 ·rw[k1] at had;cases had
 rw[k1] at had;cases had
 have hcs:=k2.cells
 simp only at hcs
 simp only[Rep]
 rcases hx with e | e
 ·obtain⟨u',q1,q2⟩:=hcs.get k2.spot off _ e
  rw[q1] at hu;cases hu
  simp only[Rep,aC] at q2
  obtain⟨ad2,hu⟩:=q2
  exact⟨some ad2,0,hu, .inl ⟨by simp,rfl⟩⟩
 ·obtain⟨u',q1,q2⟩:=hcs.get k2.spot off _ e
  rw[q1] at hu;cases hu
  simp only[Rep,aC] at q2
  exact⟨none,0,q2, .inl ⟨by simp,rfl⟩⟩
def Ad:List Col→Option (List aH)
 |[]=>some []
 | .ints k xs::l=>match Ad l with
  |some r=>some (.ints k xs::r)
  |none=>none
 | .bools xs::l=>match Ad l with
  |some r=>some (.bools xs::r)
  |none=>none
 | .rows _ _::_=>none
theorem wu:∀ {cs:List Col} {c0:List aH},Ad cs=some c0→cs=c0.map aH.up
 |[],c0,h=>by simp[Ad] at h;subst h;rfl
 | .ints k xs::l,c0,h=>by
  simp only[Ad] at h
  split at h
  next r hr=>simp at h;subst h;simp[wu hr,aH.up]
  ·cases h
 | .bools xs::l,c0,h=>by
  simp only[Ad] at h
  split at h
  next r hr=>simp at h;subst h;simp[wu hr,aH.up]
  ·cases h
 | .rows _ _::_,c0,h=>by simp[Ad] at h
def Px (bk:List (Nat×BX)) (size:Nat):D→Option (Nat×List aH×List Prop)
 | .rc cs=>match Ad cs with
  |some c0=>bif Nat.beq c0.length size then some (ah c0,c0,qJ (ah c0) c0) else none
  |none=>none
 | .sl id off n sz=>match bP id bk with
  |some (.row c0 _)=>bif Nat.beq off 0 && (Nat.beq sz.s size && Nat.beq c0.length size) then some (ah c0,c0,(n=ah c0)::qJ (ah c0) c0) else none
  |_=>none
 |_=>none
theorem oM {bk:List (Nat×BX)} {size m:Nat} {x:D} {c0:List aH} {l:List Prop} (h:Px bk size x=some (m,c0,l)) (hl:aI l):
  x.elems (fun i=>bZ i bk) size=some (m,aA c0)∧c0.length=size∧(∀ c∈c0,c.len=m)∧m=ah c0:=by
 cases x with
 |rc cs=>
  simp only[Px] at h
  split at h
  next c1 hd=>
   simp only[cond_eq_ite] at h
   split at h
   next hb=>
    simp only[Option.some.injEq,Prod.mk.injEq] at h;obtain⟨rfl,rfl,rfl⟩:=h
    have hsz:=Nat.eq_of_beq_eq_true hb
    have:=wu hd;subst this
    refine⟨?_,hsz,kF hl,rfl⟩
    simp only[D.elems]
    rw[if_pos (by simpa using hsz),eu]
   ·cases h
  ·cases h
 |sl id off n sz=>
  simp only[Px] at h
  split at h
  next c1 ro hb=>
   simp only[cond_eq_ite] at h
   split at h
   next hc=>
    simp only[Option.some.injEq,Prod.mk.injEq] at h;obtain⟨rfl,rfl,rfl⟩:=h
    simp only[Bool.and_eq_true] at hc
    obtain rfl:=Nat.eq_of_beq_eq_true hc.1
    have e1:=Nat.eq_of_beq_eq_true hc.2.1
    have e2:=Nat.eq_of_beq_eq_true hc.2.2
    obtain⟨hn,hl2⟩:=hl
    subst hn
    refine⟨?_,e2,kF hl2,rfl⟩
    have hlk:bZ id bk=some ⟨aA c1,ro⟩:=by unfold bZ;rw[hb];rfl
    simp only[D.elems,hlk]
    have hlen:=aS c1
    rw[if_pos ⟨e1,by rw[hlen,e2];omega⟩,List.drop_zero,List.take_of_length_le (by rw[hlen,e2];exact Nat.le_refl _)]
   ·cases h
  ·cases h
 |_=>simp[Px] at h
end
end Go.Dam
end

section
namespace Go.Dam
open Go Go.RowKit
variable [gB]
noncomputable section
def TD (P:Program) (bk:List (Nat×BX)) (t:TypeId) (x ix:D):Option OX:=
 match x,ix with
 | .sl id off n sz, .v (.int _ i)=>match bP id bk,P.underlying t with
  |some (.row _ _),some (.slice elem)=>match P.info? elem with
   |some j=>some (.val (.pel id i.toNat j.size off),[decide (0≤i)=true,decide (i<(n:Int))=true])
   |none=>none
  |_,_=>none
 |_,_=>none
def Mc (P:Program) (bk:List (Nat×BX)) (t:TypeId) (a:D):Option OX:=
 match a with
 | .pel id i w j=>match bP id bk with
  |some (.row cols _)=>match KI P t cols i w j with
   |some (d,l)=>some (.val d,l)
   |none=>none
  |_=>none
 |_=>none
def opY (P:Program) (bk:List (Nat×BX)) (ρ:Operand→D) (ty:TypeId) (op:Op):Option OX:=
 match op with
 | .indexAddr t x ix=>match TD P bk t (ρ x) (ρ ix) with
  |some r=>some r
  |none=>opX P (fun i=>bZ i bk) ρ ty (.indexAddr t x ix)
 | .load t a=>match Mc P bk t (ρ a) with
  |some r=>some r
  |none=>opX P (fun i=>bZ i bk) ρ ty (.load t a)
 |op=>opX P (fun i=>bZ i bk) ρ ty op
theorem Ny {P:Program} {bk:List (Nat×BX)} {ρ:Operand→D} {ty:TypeId} {op:Op} {e:Eff} {l:List Prop} (h:opY P bk ρ ty op=some (e,l)) (hl:aI l):dB P (fun i=>bZ i bk) ρ ty op=some e:=by
 unfold opY at h
 split at h
 next t x ix=>
  split at h
  next r hr=>
   simp only[Option.some.injEq] at h;subst h
   unfold TD at hr
   split at hr
   next id off n sz k i hx hi=>
    split at hr
    next elem hlk hu=>
     split at hr
     next j hj=>
      simp only[Option.some.injEq,Prod.mk.injEq] at hr;obtain⟨rfl,rfl⟩:=hr
      obtain⟨h1,h2,_⟩:=hl
      have h1:=of_decide_eq_true h1
      have h2:=of_decide_eq_true h2
      simp only[dB,jr,hx,hi,jY,indexOf,hu,hj]
      rw[if_pos ⟨h1,h2⟩]
     ·cases hr
    ·cases hr
   ·cases hr
  ·exact FT h hl
 next t a=>
  split at h
  next r hr=>
   simp only[Option.some.injEq] at h;subst h
   unfold Mc at hr
   split at hr
   next id i w j ha=>
    split at hr
    next cols ro hlk=>
     split at hr
     next d l0 ht=>
      simp only[Option.some.injEq,Prod.mk.injEq] at hr;obtain⟨rfl,rfl⟩:=hr
      have hlb:bZ id bk=some ⟨aA cols,ro⟩:=by unfold bZ;rw[hlk];rfl
      simp only[dB,LK,ha,D.behind,hlb,Option.map_some]
      rw[JX ht hl];rfl
     ·cases hr
    ·cases hr
   ·cases hr
  ·exact FT h hl
 ·exact FT h hl
def oL (P:Program) (c:Cf) (dst:Option Tmp) (t:TypeId) (a x:D):Option (Cf×List Prop):=
 match a with
 | .pel id i w j=>match bP id c.bk with
  |some (.row cols false)=>match x.cells,P.info? t with
   |some ds,some inf=>bif Nat.beq ds.length inf.size && (ds.all D.one && (Nat.beq w cols.length && (Nat.blt 0 ds.length && Nat.ble (j+ds.length) cols.length))) then
     match lC i cols j ds with
     |some cols'=>some ((c.setB id (.row cols' false)).put dst (.v undef),(i<ah cols)::qJ (ah cols) cols)
     |none=>none
    else none
   |_,_=>none
  |_=>none
 |_=>none
theorem yI {i:Nat} {l:List (Nat×BX)} {cols:List aH} {ro:Bool} (h:bP i l=some (.row cols ro)):bZ i l=some ⟨aA cols,ro⟩:=by
 unfold bZ;rw[h];rfl
@[simp] theorem aiS (c:Cf) (dst:Option Tmp) (d:D):(c.put dst d).cds=c.cds:=by cases dst<;>rfl
theorem Gz {P:Program} {c c':Cf} {dst:Option Tmp} {t:TypeId} {a x:D} {l:List Prop} {id0:Nat} (h:oL P c dst t a x=some (c',l)) (hl:aI l):
  ∃ e σ1,rq P t a x=some e∧dK c.abs dst id0 e=some σ1∧dL σ1 c'.abs∧c'.cds=c.cds:=by
 unfold oL at h
 split at h
 next id i w j=>
  split at h
  next cols hlk=>
   split at h
   next ds inf hds hinf=>
    simp only[cond_eq_ite] at h
    split at h
    next hc=>
     simp only[Bool.and_eq_true] at hc
     obtain⟨h1,h2,h3,h4,h5⟩:=hc
     have e1:=Nat.eq_of_beq_eq_true h1
     obtain rfl:=Nat.eq_of_beq_eq_true h3
     have h4:0<ds.length:=by simpa [Nat.blt_eq] using h4
     have h5:=Nat.le_of_ble_eq_true h5
     split at h
     next cols' hs=>
      simp only[Option.some.injEq,Prod.mk.injEq] at h;obtain⟨rfl,rfl⟩:=h
      obtain⟨hi,hl2⟩:=hl
      have hne:cols≠[]:=by rintro rfl;simp only[List.length_nil] at h5;omega
      have hcells:=uV hne hs (kF hl2) hi h5
      refine⟨.sto id (i*cols.length+j) ds,_,?_,?_,dL.refl _,by simp[Cf.setB]⟩
      ·simp only[rq,hds,hinf]
       rw[if_pos ⟨e1,h2⟩]
      ·simp only[dK,show c.abs.bk id=some ⟨aA cols,false⟩ from yI hlk]
       rw[if_pos ?_,bJ,bD]
       ·simp only[BX.blk,hcells]
       ·rw[aS]
        have:(i+1)*cols.length≤ah cols*cols.length:=Nat.mul_le_mul_right _ hi
        rw[Nat.add_mul,Nat.one_mul] at this
        omega
     ·cases h
    ·cases h
   ·cases h
  ·cases h
 ·cases h
theorem JF {P:Program} {c c':Cf} {dst:Option Tmp} {t:TypeId} {a x:D} {l:List Prop} (h:oL P c dst t a x=some (c',l)) (hl:aI l):
  ∃ id i w j ds off cells,a= .pel id i w j∧x.cells=some ds∧rq P t a x=some (.sto id off ds)∧c.abs.bk id=some ⟨cells,false⟩∧off+ds.length≤cells.length∧
   c'.abs=(c.abs.setB id ⟨splice cells off ds,false⟩).put dst (.v undef)∧c'.cds=c.cds:=by
 unfold oL at h
 split at h
 next id i w j=>
  split at h
  next cols hlk=>
   split at h
   next ds inf hds hinf=>
    simp only[cond_eq_ite] at h
    split at h
    next hc=>
     simp only[Bool.and_eq_true] at hc
     obtain⟨h1,h2,h3,h4,h5⟩:=hc
     have e1:=Nat.eq_of_beq_eq_true h1
     obtain rfl:=Nat.eq_of_beq_eq_true h3
     have h4:0<ds.length:=by simpa [Nat.blt_eq] using h4
     have h5:=Nat.le_of_ble_eq_true h5
     split at h
     next cols' hs=>
      simp only[Option.some.injEq,Prod.mk.injEq] at h;obtain⟨rfl,rfl⟩:=h
      obtain⟨hi,hl2⟩:=hl
      have hne:cols≠[]:=by rintro rfl;simp only[List.length_nil] at h5;omega
      have hcells:=uV hne hs (kF hl2) hi h5
      refine⟨id,i,cols.length,j,ds,i*cols.length+j,aA cols,rfl,hds,?_,yI hlk,?_,?_,by simp[Cf.setB]⟩
      ·simp only[rq,hds,hinf]
       rw[if_pos ⟨e1,h2⟩]
      ·rw[aS]
       have:(i+1)*cols.length≤ah cols*cols.length:=Nat.mul_le_mul_right _ hi
       rw[Nat.add_mul,Nat.one_mul] at this
       omega
      ·rw[bJ,bD]
       simp only[BX.blk,hcells]
     ·cases h
    ·cases h
   ·cases h
  ·cases h
 ·cases h
def Jl (n:Nat):D→Option aH
 | .v (.int k x)=>some (.ints k (List.replicate n x))
 | .v (.bool b)=>some (.bools (List.replicate n b))
 |_=>none
def nZ (n:Nat):List D→Option (List aH)
 |[]=>some []
 |d::ds=>match Jl n d,nZ n ds with
  |some c,some cs=>some (c::cs)
  |_,_=>none
theorem Ob {n:Nat} {d:D} {c:aH} (h:Jl n d=some c):c.len=n∧∀ k,k<n→D.v (c.val k)=d:=by
 unfold Jl at h
 split at h
 ·simp at h;subst h
  exact⟨by simp[aH.len],fun k hk=>by simp[aH.val,List.getD_eq_getElem?_getD,hk]⟩
 ·simp at h;subst h
  exact⟨by simp[aH.len],fun k hk=>by simp[aH.val,List.getD_eq_getElem?_getD,hk]⟩
 ·cases h
theorem uS {n:Nat}:∀ {ds:List D} {cs:List aH},nZ n ds=some cs→cs.length=ds.length∧(∀ c∈cs,c.len=n)∧∀ k,k<n→cs.map (fun c=>D.v (c.val k))=ds
 |[],cs,h=>by simp[nZ] at h;subst h;simp
 |d::ds,cs,h=>by
  simp only[nZ] at h
  split at h
  next c cs' hc hcs=>
   simp at h;subst h
   obtain⟨a1,a2⟩:=Ob hc
   obtain⟨b1,b2,b3⟩:=uS hcs
   refine⟨by simp[b1],fun c' hc'=>?_,fun k hk=>by simp[a2 k hk,b3 k hk]⟩
   rcases List.mem_cons.1 hc' with rfl | hc'
   ·exact a1
   ·exact b2 c' hc'
  ·cases h
theorem FI {n:Nat} {ds:List D} {cs:List aH} (hne:ds≠[]) (h:nZ n ds=some cs):aA cs=(List.replicate n ds).flatten:=by
 obtain⟨a1,a2,a3⟩:=uS h
 have hne':cs≠[]:=fun e=>hne (List.length_eq_zero_iff.1 (by rw[←a1,e];rfl))
 have e1:=fK hne' a2
 unfold aA gX
 rw[eu,e1]
 have key:∀ m,m≤n→(List.range m).flatMap (fun i=>(cs.map aH.up).map (Col.cell i))=(List.replicate m ds).flatten:=by
  intro m
  induction m with
  |zero=>intro _;rfl
  |succ m ih=>
   intro hm
   rw[List.range_succ,List.flatMap_append,ih (by omega),List.replicate_succ',List.flatten_append]
   congr 1
   simp only[List.flatMap_cons,List.flatMap_nil,List.append_nil,List.flatten_cons,List.flatten_nil,List.map_map]
   rw[←a3 m (by omega)]
   apply List.map_congr_left
   intro c _
   cases c<;>rfl
 exact key n (Nat.le_refl _)
def JB (P:Program) (c:Cf) (dst:Option Tmp) (id:Nat) (t:TypeId) (len cap:D):Option (Cf×List Prop):=
 match len,cap,P.underlying t with
 | .v (.int _ p), .v (.int _ q),some (.slice elem)=>match P.info? elem,Ah P elem with
  |some j,some z=>bif Nat.beq z.length j.size && Nat.blt 0 z.length then match nZ q.toNat z with
    |some cols=>some (((c.forget id).setB id (.row cols false)).put dst (.sl id 0 p.toNat ⟨j.size,0⟩),[decide (0≤p)=true,p=q,q*j.bytes≤2 ^ 40,q≤2 ^ 40])
    |none=>none
   else none
  |_,_=>none
 |_,_,_=>none
theorem JS {P:Program} {c c':Cf} {dst:Option Tmp} {id:Nat} {t:TypeId} {len cap:D} {l:List Prop} (h:JB P c dst id t len cap=some (c',l)) (hl:aI l):
  ∃ e σ1,jX P t len cap=some e∧dK c.abs dst id e=some σ1∧dL σ1 c'.abs∧c'.cds=c.cds:=by
 unfold JB at h
 split at h
 next k p k' q elem hu=>
  split at h
  next j z hj hz=>
   simp only[cond_eq_ite] at h
   split at h
   next hc=>
    simp only[Bool.and_eq_true] at hc
    have e1:=Nat.eq_of_beq_eq_true hc.1
    have e2:0<z.length:=by simpa [Nat.blt_eq] using hc.2
    split at h
    next cols hcols=>
     simp only[Option.some.injEq,Prod.mk.injEq] at h;obtain⟨rfl,rfl⟩:=h
     obtain⟨h1,h2,h3,h4,_⟩:=hl
     have h1:=of_decide_eq_true h1
     subst h2
     refine⟨.row (List.replicate p.toNat z).flatten p.toNat j.size,_,?_,?_,dL.refl _,by simp[Cf.setB,Cf.forget]⟩
     ·simp only[jX,hu,indexOf,hj,hz]
      rw[if_pos ⟨h1,Int.le_refl _,h3,h4,e1⟩]
     ·have hcells:=FI (by intro e;rw[e] at e2;simp at e2) hcols
      simp only[dK,bJ,bD,bW,BX.blk]
      rw[←hcells,fD]
    ·cases h
   ·cases h
  ·cases h
 ·cases h
end
end Go.Dam
end

section
namespace Go.Dam
open Go Go.RowKit
variable [gB]
noncomputable section
def FD (bk:List (Nat×BX)) (size:Nat) (c0:List aH) (i n:Nat):Option (List aH×List Prop):=
 match bP i bk with
 |some (.row cols false)=>bif Nat.beq cols.length size then some (cols,(n=ah cols)::qJ (ah cols) cols) else none
 |some (.cells cs false)=>match c0 with
  |[c]=>match c.of (cs.take n) with
   |some c'=>bif Nat.beq size 1 && Nat.ble n cs.length then some ([c'],[]) else none
   |none=>none
  |_=>none
 |_=>none
theorem wG {bk:List (Nat×BX)} {size i n:Nat} {c0 cols:List aH} {l:List Prop} (h:FD bk size c0 i n=some (cols,l)) (hl:aI l):
  ∃ cells,bZ i bk=some ⟨cells,false⟩∧n*size≤cells.length∧cells.take (n*size)=aA cols∧cols.length=size∧(∀ c∈cols,c.len=n):=by
 unfold FD at h
 split at h
 next cols1 hlk=>
  simp only[cond_eq_ite] at h
  split at h
  next hc=>
   simp only[Option.some.injEq,Prod.mk.injEq] at h;obtain⟨rfl,rfl⟩:=h
   have e:=Nat.eq_of_beq_eq_true hc
   obtain⟨h1,h2⟩:=hl
   subst h1
   have hlen:=aS cols1
   refine⟨aA cols1,yI hlk,by rw[hlen,e];exact Nat.le_refl _,List.take_of_length_le (by rw[hlen,e];exact Nat.le_refl _),e,kF h2⟩
  ·cases h
 next cs hlk=>
  split at h
  next c=>
   split at h
   next c' ho=>
    simp only[cond_eq_ite] at h
    split at h
    next hc=>
     simp only[Option.some.injEq,Prod.mk.injEq] at h;obtain⟨rfl,rfl⟩:=h
     simp only[Bool.and_eq_true] at hc
     obtain rfl:=Nat.eq_of_beq_eq_true hc.1
     have hn:=Nat.le_of_ble_eq_true hc.2
     obtain⟨a1,a2⟩:=aH.xZ ho
     have hl':(cs.take n).length=n:=by simp;omega
     refine⟨cs,dY hlk,by omega,?_,rfl,fun c hc=>?_⟩
     ·rw[Nat.mul_one]
      apply List.ext_getElem?
      intro k
      rw[jI]
      have e1:ah [c']=n:=by show c'.len=n;rw[a1,hl']
      rw[e1]
      simp only[List.length_cons,List.length_nil,Nat.zero_add,Nat.mul_one,Nat.mod_one,Nat.div_one]
      by_cases hk:k<n
      ·rw[if_pos hk,a2 k (by rw[hl'];exact hk)];rfl
      ·rw[if_neg hk];exact List.getElem?_eq_none (by rw[hl'];omega)
     ·simp at hc;subst hc;rw[a1,hl']
    ·cases h
   ·cases h
  ·cases h
 ·cases h
def appRow (P:Program) (c:Cf) (dst:Option Tmp) (bytes size i n m:Nat) (c0:List aH) (l:List Prop):Option (Cf×List Prop):=
 match dst,FD c.bk size c0 i n with
 |some t,some (cols,l2)=>match jk cols c0 with
  |some es=>some (((c.forget i).setB i (.row es false)).put (some t) (.sl i 0 (n+m) ⟨size,0⟩),((n+m)*bytes≤2 ^ 44)::(l2 ++ l))
  |none=>none
 |_,_=>none
def Lh (P:Program) (c:Cf) (dst:Option Tmp) (id bytes size:Nat) (s x:D):Option (Cf×List Prop):=
 match Px c.bk size x with
 |some (m,c0,l)=>match s with
  | .v (.slice none 0 0)=>some (((c.forget id).setB id (.row c0 false)).put dst (.sl id 0 m ⟨size,0⟩),(m*bytes≤2 ^ 44)::l)
  | .emp=>match dst with
   |some t=>some (((c.forget id).setB id (.row c0 false)).put (some t) (.sl id 0 m ⟨size,0⟩),(m*bytes≤2 ^ 44)::l)
   |none=>none
  | .sl i off n sz=>bif Nat.beq off 0 && Nat.beq sz.s size then appRow P c dst bytes size i n m c0 l else none
  |_=>none
 |none=>match s with
  | .sl i off n sz=>match bP i c.bk with
   |some (.row cols false)=>match x.elems c.look size with
    |some (1,ds)=>match jU cols ds with
     |some c0=>bif Nat.beq off 0 && Nat.beq sz.s size then appRow P c dst bytes size i n 1 c0 [] else none
     |none=>none
    |_=>none
   |_=>none
  |_=>none
def O7 (P:Program) (c:Cf) (dst:Option Tmp) (id:Nat) (ts:List TypeId) (s x:D):Option (Cf×List Prop):=
 match ts with
 |[t,t2]=>match P.underlying t,P.underlying t2 with
  |some (.slice e),some (.slice _)=>match P.info? e with
   |some j=>match j.zero with
    |some z=>bif Nat.ble 1 j.bytes && (Nat.beq z.cells.size j.size && Nat.blt 0 j.size) then Lh P c dst id j.bytes j.size s x else none
    |none=>none
   |none=>none
  |_,_=>none
 |_=>none
section
variable {P:Program} {c c':Cf} {dst:Option Tmp} {id:Nat} {l:List Prop}
theorem AV {bytes size i n m:Nat} {sz:Sz} {c0:List aH} {l0:List Prop} (hsz:sz.s=size) (h0:c0.length=size) (hm:∀ d∈c0,d.len=m) (hp:0<size) (h:appRow P c dst bytes size i n m c0 l0=some (c',l)) (hl:aI l):
  (n+m)*bytes≤2 ^ 44∧aI l0∧c'.cds=c.cds∧∃ σ1,dK c.abs dst id (jC (.sl i 0 n sz) size m (aA c0))=some σ1∧dL σ1 c'.abs:=by
 unfold appRow at h
 split at h
 next t cols l2 hb=>
  split at h
  next es he=>
   simp only[Option.some.injEq,Prod.mk.injEq] at h;obtain⟨rfl,rfl⟩:=h
   obtain⟨hlen,hl⟩:=hl
   rw[aW] at hl
   obtain⟨cells,k1,k2,k3,k4,k5⟩:=wG hb hl.1
   have hne:cols≠[]:=by rintro rfl;simp at k4;omega
   have hcells:=mG hne he k5 hm
   have hne0:c0≠[]:=by rintro rfl;simp at h0;omega
   refine⟨hlen,hl.2,by simp[Cf.setB,Cf.forget],?_⟩
   have hfor:(dR.mk (aA es) false).forget i=⟨aA es,false⟩:=by simp only[dR.forget,fD]
   cases m with
   |zero=>
    refine⟨c.abs.put (some t) (.sl i 0 n sz),by simp[jC,dK],?_⟩
    have e0:aA c0=[]:=by
     apply List.length_eq_zero_iff.1
     rw[aS,fK hne0 hm];simp
    rw[e0,List.append_nil] at hcells
    rw[bJ,bD,bW,BX.blk,hcells,←k3]
    exact LW (σ:=c.abs) (b:=⟨cells,false⟩) (show c.abs.bk i=some ⟨cells,false⟩ from k1) hsz
   |succ m=>
    refine⟨_,?_,dL.refl _⟩
    simp only[jC,dK,show c.abs.bk i=some ⟨cells,false⟩ from k1]
    rw[if_pos (by omega),bJ,bD,bW,BX.blk,List.drop_zero,k3,←hcells,fD]
  ·cases h
 ·cases h
def iD (bk:Nat→Option dR) (bytes size:Nat) (s x:D):Option Eff:=
 match x.elems bk size with
 |some (m,ds)=>if ds.all D.one then match s with
   | .v (.slice none 0 0)=>if m*bytes≤2 ^ 44 then some (.app s size m ds) else none
   | .emp=>if m*bytes≤2 ^ 44 then some (jC s size m ds) else none
   | .sl _ _ n sz=>if sz.s=size∧(n+m)*bytes≤2 ^ 44 then some (jC s size m ds) else none
   |_=>none
  else none
 |none=>none
theorem JQ {bytes size:Nat} {s x:D} (hp:0<size) (h:Lh P c dst id bytes size s x=some (c',l)) (hl:aI l):
  ∃ e σ1,iD c.abs.bk bytes size s x=some e∧dK c.abs dst id e=some σ1∧dL σ1 c'.abs∧c'.cds=c.cds:=by
 unfold Lh at h
 split at h
 next m c0 l0 hs=>
  split at h
  ·simp only[Option.some.injEq,Prod.mk.injEq] at h;obtain⟨rfl,rfl⟩:=h
   obtain⟨h1,h2⟩:=hl
   obtain⟨k1,k2,k3,k4⟩:=oM hs h2
   have k1:x.elems c.abs.bk size=some (m,aA c0):=k1
   refine⟨.app (.v (.slice none 0 0)) size m (aA c0),_,?_,?_,dL.refl _,by simp[Cf.setB,Cf.forget]⟩
   ·simp only[iD,k1,gm,if_true,if_pos h1]
   ·simp only[dK,bJ,bD,bW,BX.blk,fD]
  ·split at h
   next t=>
    simp only[Option.some.injEq,Prod.mk.injEq] at h;obtain⟨rfl,rfl⟩:=h
    obtain⟨h1,h2⟩:=hl
    obtain⟨k1,k2,k3,k4⟩:=oM hs h2
    have k1:x.elems c.abs.bk size=some (m,aA c0):=k1
    have core:iD c.abs.bk bytes size .emp x=some (jC .emp size m (aA c0)):=by
     simp only[iD,k1,gm,if_true,if_pos h1]
    cases m with
    |zero=>
     have hne0:c0≠[]:=by rintro rfl;simp at k2;omega
     have e0:aA c0=[]:=by
      apply List.length_eq_zero_iff.1
      rw[aS,fK hne0 k3];simp
     refine⟨_,c.abs.put (some t) .emp,core,by simp[jC,dK],?_,by simp[Cf.setB,Cf.forget]⟩
     rw[bJ,bD,bW,BX.blk,e0]
     exact AP (.inl rfl)
    |succ m=>
     refine⟨_,_,core,?_,dL.refl _,by simp[Cf.setB,Cf.forget]⟩
     simp only[jC,dK,bJ,bD,bW,BX.blk,fD]
   ·cases h
  next i off n sz=>
   simp only[cond_eq_ite] at h
   split at h
   next hc=>
    simp only[Bool.and_eq_true] at hc
    obtain rfl:=Nat.eq_of_beq_eq_true hc.1
    have e2:=Nat.eq_of_beq_eq_true hc.2
    have hl0:aI l0:=by
     have h':=h
     unfold appRow at h'
     split at h'
     ·split at h'
      ·simp only[Option.some.injEq,Prod.mk.injEq] at h';obtain⟨_,rfl⟩:=h'
       have:=hl.2;rw[aW] at this;exact this.2
      ·cases h'
     ·cases h'
    obtain⟨k1,k2,k3,k4⟩:=oM hs hl0
    have k1:x.elems c.abs.bk size=some (m,aA c0):=k1
    obtain⟨a1,_,a3,σ1,a4,a5⟩:=AV (id:=id) e2 k2 k3 hp h hl
    refine⟨_,σ1,?_,a4,a5,a3⟩
    simp only[iD,k1,gm,if_true,if_pos (show sz.s=size∧(n+m)*bytes≤2 ^ 44 from⟨e2,a1⟩)]
   ·cases h
  ·cases h
 ·split at h
  next i off n sz=>
   split at h
   next cols hlk=>
    split at h
    next ds hel=>
     split at h
     next c0 hlike=>
      simp only[cond_eq_ite] at h
      split at h
      next hc=>
       simp only[Bool.and_eq_true] at hc
       obtain rfl:=Nat.eq_of_beq_eq_true hc.1
       have e2:=Nat.eq_of_beq_eq_true hc.2
       obtain⟨b1,b2,b3⟩:=kM hlike
       have hel:x.elems c.abs.bk size=some (1,ds):=hel
       have hcl:cols.length=size:=by
        have h':=h
        unfold appRow at h'
        split at h'
        next t cols2 l2 hb=>
         unfold FD at hb
         rw[hlk] at hb
         simp only[cond_eq_ite] at hb
         split at hb
         next hq=>exact Nat.eq_of_beq_eq_true hq
         ·cases hb
        ·cases h'
       have hne:cols≠[]:=by rintro rfl;simp at hcl;omega
       have hds:=rV hne hlike
       obtain⟨a1,_,a3,σ1,a4,a5⟩:=AV (id:=id) (m:=1) e2 (by rw[b1,hcl]) b2 hp h hl
       rw[hds] at a4
       have hone:ds.all D.one=true:=by rw[←hds];exact gm
       refine⟨_,σ1,?_,a4,a5,a3⟩
       simp only[iD,hel,hone,if_true,if_pos (show sz.s=size∧(n+1)*bytes≤2 ^ 44 from⟨e2,a1⟩)]
      ·cases h
     ·cases h
    ·cases h
   ·cases h
  ·cases h
theorem MO {ts:Array TypeId} {s x:D} (h:O7 P c dst id ts.toList s x=some (c',l)) (hl:aI l):
  ∃ e σ1,jd P c.abs.bk ts s x=some e∧dK c.abs dst id e=some σ1∧dL σ1 c'.abs∧c'.cds=c.cds:=by
 obtain⟨ts⟩:=ts
 unfold O7 at h
 split at h
 next t t2 hts=>
  simp only at hts
  subst hts
  split at h
  next e e2 hu hu2=>
   split at h
   next j hj=>
    split at h
    next z hz=>
     simp only[cond_eq_ite] at h
     split at h
     next hc=>
      simp only[Bool.and_eq_true] at hc
      have c1:=Nat.le_of_ble_eq_true hc.1
      have c2:=Nat.eq_of_beq_eq_true hc.2.1
      have c3:0<j.size:=by simpa [Nat.blt_eq] using hc.2.2
      obtain⟨e0,σ1,k1,k2,k3,k4⟩:=JQ c3 h hl
      refine⟨e0,σ1,?_,k2,k3,k4⟩
      unfold iD at k1
      simp only[jd,hu,hu2,hj,hz]
      rw[if_pos ⟨c1,c2⟩]
      exact k1
     ·cases h
    ·cases h
   ·cases h
  ·cases h
 ·cases h
end
def RI (P:Program) (c:Cf) (dst:Option Tmp) (id:Nat) (k:Call):Option (Cf×List Prop):=
 match k.callee with
 | .builtin .append=>match k.args.toList with
  |[s,x]=>O7 P c dst id k.argTypes.toList (eG c.toCs s) (eG c.toCs x)
  |_=>none
 |_=>none
def Fp (P:Program) (c:Cf) (dst:Option Tmp) (id:Nat) (op:Op):Option (Cf×List Prop):=
 match op with
 | .store t a x=>oL P c dst t (eG c.toCs a) (eG c.toCs x)
 | .makeSlice t n k=>JB P c dst id t (eG c.toCs n) (eG c.toCs k)
 | .call k=>RI P c dst id k
 |_=>none
theorem GH {P:Program} {c c':Cf} {dst:Option Tmp} {id:Nat} {ty:TypeId} {op:Op} {l:List Prop} (h:Fp P c dst id op=some (c',l)) (hl:aI l):
  ∃ e σ1,dB P c.abs.bk (bn c.abs) ty op=some e∧dK c.abs dst id e=some σ1∧dL σ1 c'.abs∧c'.cds=c.cds:=by
 unfold Fp at h
 split at h
 next t a x=>
  rw[dw] at h
  exact Gz h hl
 next t n k=>
  rw[dw] at h
  exact JS h hl
 next k=>
  unfold RI at h
  split at h
  next hk=>
   split at h
   next s x ha=>
    rw[dw] at h
    obtain⟨callee,⟨args⟩,ts⟩:=k
    simp only at hk ha h
    subst hk
    subst ha
    obtain⟨e,σ1,k1,k2,k3,k4⟩:=MO h hl
    exact⟨e,σ1,k1,k2,k3,k4⟩
   ·cases h
  ·cases h
 ·cases h
def aH.none:aH→aH
 | .ints k _=> .ints k []
 | .bools _=> .bools []
def aH.cut (k:Nat):aH→aH
 | .ints i xs=> .ints i (xs.take k)
 | .bools xs=> .bools (xs.take k)
theorem Un (k:Nat) (c:aH):aA [c.cut k]=(aA [c]).take k:=by
 apply List.ext_getElem?
 intro m
 rw[List.getElem?_take,jI,jI]
 cases c with
 |ints i xs=>
  simp only[aH.cut,ah,aH.len,List.length_take,List.length_cons,List.length_nil,Nat.zero_add,Nat.mul_one,Nat.mod_one,Nat.div_one]
  by_cases h:m<k
  ·by_cases h2:m<xs.length
   ·rw[if_pos (by omega),if_pos h,if_pos h2];simp[aH.val,List.getD_eq_getElem?_getD,List.getElem?_take,h]
   ·rw[if_neg (by omega),if_pos h,if_neg h2]
  ·rw[if_neg (by omega),if_neg h]
 |bools xs=>
  simp only[aH.cut,ah,aH.len,List.length_take,List.length_cons,List.length_nil,Nat.zero_add,Nat.mul_one,Nat.mod_one,Nat.div_one]
  by_cases h:m<k
  ·by_cases h2:m<xs.length
   ·rw[if_pos (by omega),if_pos h,if_pos h2];simp[aH.val,List.getD_eq_getElem?_getD,List.getElem?_take,h]
   ·rw[if_neg (by omega),if_pos h,if_neg h2]
  ·rw[if_neg (by omega),if_neg h]
def um (c:Cf):Cast→Option Cf
 | .cut id k=>match bP id c.bk with
  |some (.row [col] ro)=>some (c.setB id (.row [col.cut k] ro))
  |_=>Option.none
 | .nil t id sz cols=>match c.get t with
  | .emp=>bif Nat.blt 0 cols.length then some (((c.forget id).setB id (.row (cols.map aH.none) false)).put (some t) (.sl id 0 0 ⟨sz,0⟩)) else Option.none
  | .v (.slice Option.none 0 0)=>bif Nat.blt 0 cols.length then some (((c.forget id).setB id (.row (cols.map aH.none) false)).put (some t) (.sl id 0 0 ⟨sz,0⟩)) else Option.none
  |_=>Option.none
 | .cells id col=>match bP id c.bk with
  |some (.cells cs ro)=>match col.of cs with
   |some c'=>some (c.setB id (.row [c'] ro))
   |Option.none=>Option.none
  |_=>Option.none
 | .cnil b off id sz cols=>match bP b c.bk with
  |some (.cells cs false)=>match cs[off]? with
   |some .emp=>bif Nat.blt 0 cols.length && !(Nat.beq b id) then some (((c.forget id).setB id (.row (cols.map aH.none) false)).setB b (.cells ((cs.map (D.forget id)).set off (.sl id 0 0 ⟨sz,0⟩)) false)) else Option.none
   |some (.v (.slice Option.none 0 0))=>bif Nat.blt 0 cols.length && !(Nat.beq b id) then some (((c.forget id).setB id (.row (cols.map aH.none) false)).setB b (.cells ((cs.map (D.forget id)).set off (.sl id 0 0 ⟨sz,0⟩)) false)) else Option.none
   |_=>Option.none
  |_=>Option.none
def tN:List Cast→Cf→Option Cf
 |[],c=>some c
 |k::ks,c=>match um c k with
  |some c'=>tN ks c'
  |Option.none=>Option.none
theorem jR {cols:List aH} (h:0<cols.length):aA (cols.map aH.none)=[]:=by
 apply List.length_eq_zero_iff.1
 rw[aS]
 cases cols with
 |nil=>simp at h
 |cons c cs=>simp only[List.map_cons,ah];cases c<;>simp[aH.none,aH.len]
theorem JO {c c':Cf} {k:Cast} (h:um c k=some c'):dL c.abs c'.abs∧c'.cds=c.cds:=by
 cases k with
 |cut id k=>
  simp only[um] at h
  split at h
  next col ro hlk=>
   simp at h;subst h
   refine⟨?_,rfl⟩
   rw[bD,BX.blk,Un]
   have hb:c.abs.bk id=some ⟨aA [col],ro⟩:=by
    show bZ id c.bk=_
    unfold bZ;rw[hlk];rfl
   exact fun w A β base tmps acts hr=>⟨β,Rel.cut hr hb k⟩
  ·cases h
 |nil t id sz cols=>
  simp only[um] at h
  split at h
  next he=>
   simp only[cond_eq_ite] at h
   split at h
   next hb=>
    simp at h;subst h
    refine⟨?_,by simp[Cf.setB,Cf.forget]⟩
    rw[bJ,bD,bW,BX.blk,jR (by simpa [Nat.blt_eq] using hb)]
    exact DY (.inl he)
   ·cases h
  next he=>
   simp only[cond_eq_ite] at h
   split at h
   next hb=>
    simp at h;subst h
    refine⟨?_,by simp[Cf.setB,Cf.forget]⟩
    rw[bJ,bD,bW,BX.blk,jR (by simpa [Nat.blt_eq] using hb)]
    exact DY (.inr he)
   ·cases h
  ·cases h
 |cells id col=>
  simp only[um] at h
  split at h
  next cs ro hlk=>
   split at h
   next c1 ho=>
    simp at h;subst h
    refine⟨?_,rfl⟩
    obtain⟨a1,a2⟩:=aH.xZ ho
    have hcells:aA [c1]=cs:=by
     apply List.ext_getElem?
     intro k
     rw[jI]
     have e1:ah [c1]=cs.length:=a1
     rw[e1]
     simp only[List.length_cons,List.length_nil,Nat.zero_add,Nat.mul_one,Nat.mod_one,Nat.div_one]
     by_cases hk:k<cs.length
     ·rw[if_pos hk,a2 k hk];rfl
     ·rw[if_neg hk];exact(List.getElem?_eq_none (by omega)).symm
    rw[bD,BX.blk,hcells]
    have:c.abs.setB id ⟨cs,ro⟩=c.abs:=by
     simp only[St.setB]
     congr 1
     funext j
     by_cases e:j=id
     ·subst e;rw[if_pos rfl];exact(dY hlk).symm
     ·rw[if_neg e];rfl
    rw[this]
    exact dL.refl _
   ·cases h
  ·cases h
 |cnil b off id sz cols=>
  simp only[um] at h
  split at h
  next cs hlk=>
   split at h
   next he=>
    simp only[cond_eq_ite] at h
    split at h
    next hb=>
     simp at h;subst h
     simp only[Bool.and_eq_true,Bool.not_eq_true'] at hb
     refine⟨?_,by simp[Cf.setB,Cf.forget]⟩
     rw[bD,bD,bW,BX.blk,BX.blk,jR (by simpa [Nat.blt_eq] using hb.1)]
     exact AY (fun e=>by rw[e,fM] at hb;exact absurd hb.2 (by simp)) (show c.abs.bk b=some ⟨cs,false⟩ from dY hlk) (.inl he)
    ·cases h
   next he=>
    simp only[cond_eq_ite] at h
    split at h
    next hb=>
     simp at h;subst h
     simp only[Bool.and_eq_true,Bool.not_eq_true'] at hb
     refine⟨?_,by simp[Cf.setB,Cf.forget]⟩
     rw[bD,bD,bW,BX.blk,BX.blk,jR (by simpa [Nat.blt_eq] using hb.1)]
     exact AY (fun e=>by rw[e,fM] at hb;exact absurd hb.2 (by simp)) (show c.abs.bk b=some ⟨cs,false⟩ from dY hlk) (.inr he)
    ·cases h
   ·cases h
  ·cases h
theorem qw:∀ {ks:List Cast} {c c':Cf},tN ks c=some c'→dL c.abs c'.abs∧c'.cds=c.cds
 |[],c,c',h=>by simp[tN] at h;subst h;exact⟨dL.refl _,rfl⟩
 |k::ks,c,c',h=>by
  simp only[tN] at h
  split at h
  next c1 h1=>
   obtain⟨a1,a2⟩:=JO h1
   obtain⟨b1,b2⟩:=qw h
   exact⟨a1.trans b1,b2.trans a2⟩
  ·cases h
end
end Go.Dam
end
