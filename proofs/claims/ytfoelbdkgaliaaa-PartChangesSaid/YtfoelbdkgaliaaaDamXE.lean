/- The engine: an abstract machine for the program's functions, proved right against the model. No condition. -/
import Derived.Test.YtfoelbdkgaliaaaDamXW
set_option linter.unusedSectionVars false
set_option linter.unusedVariables false
set_option linter.unusedSimpArgs false
section
namespace Go.Dam
open Go Go.RowKit
variable [gB]
noncomputable section
def rY (i:Nat):List (Nat×BX)→List (Nat×BX)
 |[]=>[]
 |(j,c)::l=>bif Nat.beq j i then rY i l else(j,c)::rY i l
theorem zS (i j:Nat):∀ l,bP j (rY i l)=if j=i then none else bP j l
 |[]=>by simp[rY,bP]
 |(k,c)::l=>by
  simp only[rY]
  by_cases hk:k=i
  ·subst hk
   rw[fM,cond_true,zS k j l]
   by_cases e:j=k
   ·simp[e]
   ·simp[e,bP,iK (Ne.symm e)]
  ·rw[iK hk,cond_false]
   simp only[bP,zS i j l]
   by_cases h:k=j
   ·subst h;simp[hk]
   ·simp[iK h]
def Cf.rY (c:Cf) (i:Nat):Cf:={ c with bk:=Go.Dam.rY i c.bk }
theorem Nq (c:Cf) (i:Nat):(c.rY i).abs=c.abs.dO i:=by
 simp only[Cf.rY,Cf.abs,Cs.abs,St.dO]
 congr 1
 funext j
 simp only[bZ,zS]
 split<;>rfl
def Dq (c:Cf) (bytes size:Nat) (s x:D):Option (Nat×Nat×List aH×List Prop):=
 match s with
 | .sl i off n sz=>match bP i c.bk with
  |some (.row cols false)=>match x.elems c.look size with
   |some (1,ds)=>match jU cols ds with
    |some c0=>match jk cols c0 with
     |some es=>bif Nat.beq off 0 && (Nat.beq sz.s size && Nat.beq cols.length size) then some (i,n,es,((n+1)*bytes≤2 ^ 44)::(n=ah cols)::qJ (ah cols) cols) else none
     |none=>none
    |none=>none
   |_=>none
  |_=>none
 |_=>none
def JW (P:Program) (c:Cf) (ts:List TypeId) (s x:D):Option (Nat×Nat×Nat×List aH×List Prop):=
 match ts with
 |[t,t2]=>match P.underlying t,P.underlying t2 with
  |some (.slice e),some (.slice _)=>match P.info? e with
   |some j=>match j.zero with
    |some z=>bif Nat.ble 1 j.bytes && (Nat.beq z.cells.size j.size && Nat.blt 0 j.size) then(match Dq c j.bytes j.size s x with | some (i,n,es,l)=>some (i,n,j.size,es,l) | none=>none) else none
    |none=>none
   |none=>none
  |_,_=>none
 |_=>none
theorem Gp {c:Cf} {bytes size i n:Nat} {s x:D} {es:List aH} {l:List Prop} (hp:0<size) (h:Dq c bytes size s x=some (i,n,es,l)) (hl:aI l):
  ∃ sz ds cells,s= .sl i 0 n sz∧iD c.abs.bk bytes size s x=some (.app (.sl i 0 n sz) size 1 ds)∧c.abs.bk i=some ⟨cells,false⟩∧n*size≤cells.length∧aA es=cells.take (n*size) ++ ds:=by
 unfold Dq at h
 split at h
 next i off n sz=>
  split at h
  next cols hlk=>
   split at h
   next ds hel=>
    split at h
    next c0 hlike=>
     split at h
     next es hj=>
      simp only[cond_eq_ite] at h
      split at h
      next hc=>
       simp only[Option.some.injEq,Prod.mk.injEq] at h
       obtain⟨rfl,rfl,rfl,rfl⟩:=h
       simp only[Bool.and_eq_true] at hc
       obtain rfl:=Nat.eq_of_beq_eq_true hc.1
       have e2:=Nat.eq_of_beq_eq_true hc.2.1
       have hcl:=Nat.eq_of_beq_eq_true hc.2.2
       obtain⟨a1,a2⟩:=hl
       have hb:FD c.bk size c0 i n=some (cols,(n=ah cols)::qJ (ah cols) cols):=by
        unfold FD;rw[hlk];simp only[cond_eq_ite];rw[if_pos hc.2.2]
       obtain⟨cells,k1,k2,k3,k4,k5⟩:=wG hb a2
       obtain⟨b1,b2,b3⟩:=kM hlike
       have hel:x.elems c.abs.bk size=some (1,ds):=hel
       have hne:cols≠[]:=by rintro rfl;simp at hcl;omega
       have hds:=rV hne hlike
       have hone:ds.all D.one=true:=by rw[←hds];exact gm
       have hcells:=mG hne hj k5 b2
       refine⟨sz,ds,cells,rfl,?_,k1,k2,by rw[hcells,hds,k3]⟩
       simp only[iD,hel,hone,if_true,if_pos (show sz.s=size∧(n+1)*bytes≤2 ^ 44 from⟨e2,a1⟩),jC]
      ·cases h
     ·cases h
    ·cases h
   ·cases h
  ·cases h
 ·cases h
theorem JL {P:Program} {c:Cf} {ts:Array TypeId} {i n size:Nat} {s x:D} {es:List aH} {l:List Prop} (h:JW P c ts.toList s x=some (i,n,size,es,l)) (hl:aI l):
  ∃ sz ds cells,s= .sl i 0 n sz∧jd P c.abs.bk ts s x=some (.app (.sl i 0 n sz) size 1 ds)∧c.abs.bk i=some ⟨cells,false⟩∧n*size≤cells.length∧aA es=cells.take (n*size) ++ ds:=by
 obtain⟨ts⟩:=ts
 unfold JW at h
 split at h
 next t t2 hts=>
  simp only at hts
  subst hts
  split at h
  next e e2 hu hu2=>
   split at h
   next j hj=>
    split at h
    next z hz=>
     simp only[cond_eq_ite] at h
     split at h
     next hc=>
      simp only[Bool.and_eq_true] at hc
      have c1:=Nat.le_of_ble_eq_true hc.1
      have c2:=Nat.eq_of_beq_eq_true hc.2.1
      have c3:0<j.size:=by simpa [Nat.blt_eq] using hc.2.2
      split at h
      next i n es l hg=>
       simp only[Option.some.injEq,Prod.mk.injEq] at h
       obtain⟨rfl,rfl,rfl,rfl,rfl⟩:=h
       obtain⟨sz,ds,cells,k0,k1,k2,k3,k4⟩:=Gp c3 hg hl
       refine⟨sz,ds,cells,k0,?_,k2,k3,k4⟩
       unfold iD at k1
       simp only[jd,hu,hu2,hj,hz]
       rw[if_pos ⟨c1,c2⟩]
       exact k1
      ·cases h
     ·cases h
    ·cases h
   ·cases h
  ·cases h
 ·cases h
end
def Dk (P:Program) (c:Cf) (ts:List TypeId) (s x:D):Option (Nat×Nat×List aH×List Prop):=
 match ts with
 |[t,t2]=>match P.underlying t,P.underlying t2 with
  |some (.slice e),some (.slice _)=>match P.info? e with
   |some j=>match j.zero with
    |some z=>bif Nat.ble 1 j.bytes && (Nat.beq z.cells.size j.size && Nat.blt 0 j.size) then(match s with
     | .emp=>match Px c.bk j.size x with
      |some (m,c0,l)=>some (m,j.size,c0,(m*j.bytes≤2 ^ 44)::l)
      |none=>none
     |_=>none) else none
    |none=>none
   |none=>none
  |_,_=>none
 |_=>none
theorem Gx {P:Program} {c:Cf} {ts:Array TypeId} {m size:Nat} {s x:D} {c0:List aH} {l:List Prop} (h:Dk P c ts.toList s x=some (m,size,c0,l)) (hl:aI l):
  s= .emp∧jd P c.abs.bk ts s x=some (jC .emp size m (aA c0))∧(m=0→aA c0=[]):=by
 obtain⟨ts⟩:=ts
 unfold Dk at h
 split at h
 next t t2 hts=>
  simp only at hts
  subst hts
  split at h
  next e e2 hu hu2=>
   split at h
   next j hj=>
    split at h
    next z hz=>
     simp only[cond_eq_ite] at h
     split at h
     next hc=>
      simp only[Bool.and_eq_true] at hc
      have c1:=Nat.le_of_ble_eq_true hc.1
      have c2:=Nat.eq_of_beq_eq_true hc.2.1
      have c3:0<j.size:=by simpa [Nat.blt_eq] using hc.2.2
      split at h
      ·split at h
       next m c0 l hs=>
        simp only[Option.some.injEq,Prod.mk.injEq] at h
        obtain⟨rfl,rfl,rfl,rfl⟩:=h
        obtain⟨h1,h2⟩:=hl
        obtain⟨k1,k2,k3,k4⟩:=oM hs h2
        have k1:x.elems c.abs.bk j.size=some (m,aA c0):=k1
        refine⟨rfl,?_,fun hm=>?_⟩
        ·simp only[jd,hu,hu2,hj,hz]
         rw[if_pos ⟨c1,c2⟩]
         show iD c.abs.bk j.bytes j.size .emp x=_
         simp only[iD,k1,gm,if_true,if_pos h1]
        ·subst hm
         have hne0:c0≠[]:=by rintro rfl;simp at k2;omega
         apply List.length_eq_zero_iff.1
         rw[aS,fK hne0 k3];simp
       ·cases h
      ·cases h
     ·cases h
    ·cases h
   ·cases h
  ·cases h
 ·cases h
def EY (c:Cf) (bytes size:Nat) (s x:D):Option (Nat×Nat×Nat×List aH×List Prop):=
 match s with
 | .sl i off n sz=>match Px c.bk size x with
  |some (m,c0,l)=>match FD c.bk size c0 i n with
   |some (cols,l2)=>match jk cols c0 with
    |some es=>bif Nat.beq off 0 && Nat.beq sz.s size then some (i,n,m,es,((n+m)*bytes≤2 ^ 44)::(l2 ++ l)) else none
    |none=>none
   |none=>none
  |none=>none
 |_=>none
theorem GU {c:Cf} {bytes size i n m:Nat} {s x:D} {es:List aH} {l:List Prop} (hp:0<size) (h:EY c bytes size s x=some (i,n,m,es,l)) (hl:aI l):
  ∃ sz ds cells,s= .sl i 0 n sz∧iD c.abs.bk bytes size s x=some (jC (.sl i 0 n sz) size m ds)∧(m=0→ds=[]∧sz.s=size)∧c.abs.bk i=some ⟨cells,false⟩∧n*size≤cells.length∧aA es=cells.take (n*size) ++ ds:=by
 unfold EY at h
 split at h
 next i off n sz=>
  split at h
  next m c0 l1 hs=>
   split at h
   next cols l2 hb=>
    split at h
    next es hj=>
     simp only[cond_eq_ite] at h
     split at h
     next hc=>
      simp only[Option.some.injEq,Prod.mk.injEq] at h
      obtain⟨rfl,rfl,rfl,rfl,rfl⟩:=h
      simp only[Bool.and_eq_true] at hc
      obtain rfl:=Nat.eq_of_beq_eq_true hc.1
      have e2:=Nat.eq_of_beq_eq_true hc.2
      obtain⟨a1,a2⟩:=hl
      rw[aW] at a2
      obtain⟨k1,k2,k3,k4⟩:=oM hs a2.2
      have k1:x.elems c.abs.bk size=some (m,aA c0):=k1
      obtain⟨cells,b1,b2,b3,b4,b5⟩:=wG hb a2.1
      have hne:cols≠[]:=by rintro rfl;simp at b4;omega
      have hne0:c0≠[]:=by rintro rfl;simp at k2;omega
      have hcells:=mG hne hj b5 k3
      refine⟨sz,aA c0,cells,rfl,?_,fun hm=>⟨?_,e2⟩,b1,b2,by rw[hcells,b3]⟩
      ·simp only[iD,k1,gm,if_true,if_pos (show sz.s=size∧(n+m)*bytes≤2 ^ 44 from⟨e2,a1⟩)]
      ·subst hm
       apply List.length_eq_zero_iff.1
       rw[aS,fK hne0 k3];simp
     ·cases h
    ·cases h
   ·cases h
  ·cases h
 ·cases h
def JM (P:Program) (c:Cf) (ts:List TypeId) (s x:D):Option (Nat×Nat×Nat×Nat×List aH×List Prop):=
 match ts with
 |[t,t2]=>match P.underlying t,P.underlying t2 with
  |some (.slice e),some (.slice _)=>match P.info? e with
   |some j=>match j.zero with
    |some z=>bif Nat.ble 1 j.bytes && (Nat.beq z.cells.size j.size && Nat.blt 0 j.size) then(match EY c j.bytes j.size s x with | some (i,n,m,es,l)=>some (i,n,m,j.size,es,l) | none=>none) else none
    |none=>none
   |none=>none
  |_,_=>none
 |_=>none
theorem KF {P:Program} {c:Cf} {ts:Array TypeId} {i n m size:Nat} {s x:D} {es:List aH} {l:List Prop} (h:JM P c ts.toList s x=some (i,n,m,size,es,l)) (hl:aI l):
  ∃ sz ds cells,s= .sl i 0 n sz∧jd P c.abs.bk ts s x=some (jC (.sl i 0 n sz) size m ds)∧(m=0→ds=[]∧sz.s=size)∧c.abs.bk i=some ⟨cells,false⟩∧n*size≤cells.length∧aA es=cells.take (n*size) ++ ds:=by
 obtain⟨ts⟩:=ts
 unfold JM at h
 split at h
 next t t2 hts=>
  simp only at hts
  subst hts
  split at h
  next e e2 hu hu2=>
   split at h
   next j hj=>
    split at h
    next z hz=>
     simp only[cond_eq_ite] at h
     split at h
     next hc=>
      simp only[Bool.and_eq_true] at hc
      have c1:=Nat.le_of_ble_eq_true hc.1
      have c2:=Nat.eq_of_beq_eq_true hc.2.1
      have c3:0<j.size:=by simpa [Nat.blt_eq] using hc.2.2
      split at h
      next i n m es l hg=>
       simp only[Option.some.injEq,Prod.mk.injEq] at h
       obtain⟨rfl,rfl,rfl,rfl,rfl,rfl⟩:=h
       obtain⟨sz,ds,cells,k0,k1,k2⟩:=GU c3 hg hl
       refine⟨sz,ds,cells,k0,?_,k2⟩
       unfold iD at k1
       simp only[jd,hu,hu2,hj,hz]
       rw[if_pos ⟨c1,c2⟩]
       exact k1
      ·cases h
     ·cases h
    ·cases h
   ·cases h
  ·cases h
 ·cases h
end Go.Dam
end

section
namespace Go.Dam
open Go Go.RowKit
variable [gB]
noncomputable section
def tV:List Nat→Nat→Bool
 |[],_=>false
 |lo::l,id=>(Nat.ble lo id && Nat.blt id (lo+32)) || tV l id
def aU (R:Array Oper) (dep k:Nat):Nat:=(dep*4096+IU R k)*32
def cZ (R:Array Oper) (dep k:Nat):List Nat:=((List.range R.size).filter fun l=>wB R k l && dW R l).map (aU R dep)
def lZ (R:Array Oper) (dep:Nat):List Nat:=((List.range R.size).filter (dW R)).map (aU R dep)
def Et (q:Nat→Bool):List (Nat×BX)→List (Nat×BX)
 |[]=>[]
 |(j,b)::l=>bif q j then Et q l else(j,b.wipe q)::Et q l
def Cf.wipe (q:Nat→Bool) (c:Cf):Cf:={ tm:=c.tm.map (D.wipe q),nt:=c.nt,stk:=c.stk.map fun f=>(f.1.map (D.wipe q),f.2),bk:=Et q c.bk,loop:=if q dI then none else c.loop,gen:=c.gen,todo:=c.todo,cds:=c.cds }
theorem vI (q:Nat→Bool) (j:Nat):∀ l,bP j (Et q l)=if q j then none else(bP j l).map (BX.wipe q)
 |[]=>by simp[Et,bP]
 |(k,b)::l=>by
  simp only[Et]
  cases hk:q k with
  |true=>
   rw[cond_true,vI q j l]
   by_cases h:k=j
   ·subst h;simp[hk]
   ·simp[bP,iK h]
  |false=>
   rw[cond_false]
   simp only[bP,vI q j l]
   by_cases h:k=j
   ·subst h;simp[fM,hk]
   ·simp[iK h]
theorem PG (q:Nat→Bool) (j:Nat) (l:List (Nat×BX)):bZ j (Et q l)=if q j then none else(bZ j l).map (dR.wipe q):=by
 unfold bZ;rw[vI];split
 ·rfl
 ·simp only[Option.map_map];congr 1;funext b;exact BX.YO q b
theorem IW (q:Nat→Bool) (f:TT×Nat):iY (f.1.map (D.wipe q),f.2)=(iY f).wipe q:=by
 simp only[iY,Fr.wipe]
 congr 1
 funext t
 exact TT.get_map rfl _ _
theorem wY (c:Cf) (q:Nat→Bool):(c.wipe q).abs=c.abs.wipe q:=by
 simp only[Cf.wipe,Cf.abs,Cs.abs,St.wipe,List.map_map]
 congr 1
 ·exact IW q (c.tm,c.nt)
 ·congr 1
  funext f
  exact IW q f
 ·funext j
  exact PG q j c.bk
def nY (los:List Nat) (c:Cf):Cf:=match los with
 |[]=>c
 |lo::l=>c.wipe (tV (lo::l))
def iJ (los:List Nat) (d:D):Bool:=match los with
 |[]=>true
 |lo::l=>D.clear (tV (lo::l)) d
def jO (los:List Nat):List D→Bool
 |[]=>true
 |d::ds=>iJ los d && jO los ds
def zC (c:Cf) (tgt:List Nat) (S:List Nat) (o:Oper) (told:List Nat):Bool:=S.all fun j=>
 o.op.operands.toList.all (fun y=>D.clear (Nat.beq (tgt.getD j 0)) (eG c.toCs y)) && !(told.contains (tgt.getD j 0))
def aaN:D→Nat
 | .ptr id _=>id
 | .pel id _ _ _=>id
 |_=>0
def ail (P:Program) (R:Array Oper) (c:Cf) (k:Nat):Nat:=bif uB P R k then match R[k]? with
  |some o=>match o.op with
   | .store _ ad _=>aaN (eG c.toCs ad)
   |_=>0
  |none=>0
 else 0
abbrev sG (P:Program) (R:Array Oper) (tgt:List Nat) (k:Nat):List Nat:=sL P R k ++ gL P R tgt k
def Zt (R:Array Oper) (k:Nat):Bool:=dW R k && (match R[k]? with
 |some o=>match o.op with
  | .call ⟨.builtin .append,_,_⟩=>true
  |_=>false
 |none=>false)
def XB (R:Array Oper) (E:List Oper→Cf→Option (Ex×Cf)) (c:Cf) (k:Nat):Nat:=bif Zt R k then match R[k]? with
  |some o=>match o.op.operands.toList with
   |s::_=>match E (R.toList.take k) c with
    |some (_,c1)=>match eG c1.toCs s with
     | .sl i _ _ _=>i
     |_=>0
    |none=>0
   |[]=>0
  |none=>0
 else 0
def YQ (P:Program) (R:Array Oper) (E:List Oper→Cf→Option (Ex×Cf)) (c:Cf):List Nat:=
 bif (List.range R.size).any (uB P R) then match E R.toList c with
  |some (_,c1)=>(List.range R.size).map fun k=>bif Zt R k then XB R E c k else ail P R c1 k
  |none=>[]
 else bif (List.range R.size).any (Zt R) then(List.range R.size).map (XB R E c) else[]
def o9 (c:Cf) (id:Nat):List BX→Cf
 |[]=>c
 |b::bs=>o9 (c.setB id b) (id+1) bs
def aah (los:List Nat):BX→Bool
 | .cells cs _=>jO los cs
 | .row _ _=>true
def xH (los:List Nat):List BX→Bool
 |[]=>true
 |b::bs=>aah los b && xH los bs
def XO:D→Bool
 | .emp=>true
 | .v _=>true
 |_=>false
def CW (c:Cf) (t:Nat) (b:Bool):Option (Bool×Cf):=
 match c.todo with
 | .c 0::p=>some (b,{ c with todo:=p })
 | .c (n+1)::p=>some (b,{ c with todo:= .c n::p })
 | .d v::p=>some (v,{ c with tm:=c.tm.set (.v (.bool v)) (path t),todo:=p,cds:=(b=v)::c.cds })
 |_=>none
theorem xE {c c':Cf} {t:Nat} {b v:Bool} (hb:c.get t= .v (.bool b)) (h:CW c t b=some (v,c')) (hl:aI c'.cds):b=v∧aI c.cds∧c'.abs=c.abs:=by
 unfold CW at h
 split at h
 ·simp only[Option.some.injEq,Prod.mk.injEq] at h;obtain⟨rfl,rfl⟩:=h;exact⟨rfl,hl,rfl⟩
 ·simp only[Option.some.injEq,Prod.mk.injEq] at h;obtain⟨rfl,rfl⟩:=h;exact⟨rfl,hl,rfl⟩
 ·simp only[Option.some.injEq,Prod.mk.injEq] at h;obtain⟨rfl,rfl⟩:=h
  obtain⟨h1,h2⟩:=hl
  refine⟨h1,h2,?_⟩
  simp only[Cf.abs,Cs.abs]
  congr 1
  simp only[iY]
  congr 1
  funext i
  rw[TT.CX]
  split
  next e=>rw[e,←h1];exact hb.symm
  next=>rfl
 ·cases h
def Cm (R:Array Oper) (o:Oper) (c:Cf):Option (Bool×Cf):=
 match o.guard with
 |none=>some (true,c)
 |some (j,want)=>match (R[j]?).bind (·.dst) with
  |none=>some (false,c)
  |some t=>match c.get t with
   | .v (.bool b)=>match CW c t b with
    |none=>none
    |some (v,c')=>some (v ==want,c')
   | .v _=>some (false,c)
   |_=>none
theorem lD {R:Array Oper} {o:Oper} {c c':Cf} {v:Bool} (h:Cm R o c=some (v,c')) (hl:aI c'.cds):aI c.cds∧c'.abs=c.abs∧bf R o c.abs=some v:=by
 unfold Cm at h
 unfold bf
 split at h
 next hg=>simp only[Option.some.injEq,Prod.mk.injEq] at h;obtain⟨rfl,rfl⟩:=h;rw[hg];exact⟨hl,rfl,rfl⟩
 next j want hg=>
  rw[hg]
  simp only[]
  split at h
  next hd=>simp only[Option.some.injEq,Prod.mk.injEq] at h;obtain⟨rfl,rfl⟩:=h;rw[hd];exact⟨hl,rfl,rfl⟩
  next t hd=>
   rw[hd]
   simp only[]
   have ht:c.abs.fr.tm t=c.get t:=rfl
   rw[ht]
   split at h
   next b hb=>
    split at h
    ·cases h
    next v' c1 h1=>
     simp only[Option.some.injEq,Prod.mk.injEq] at h;obtain⟨rfl,rfl⟩:=h
     obtain⟨rfl,k1,k2⟩:=xE hb h1 hl
     exact⟨k1,k2,by rw[hb];rfl⟩
   next x hx hb=>
    simp only[Option.some.injEq,Prod.mk.injEq] at h;obtain⟨rfl,rfl⟩:=h
    refine⟨hl,rfl,?_⟩
    rw[hb]
    show JH want x=some false
    unfold JH
    split
    ·exact absurd rfl (hx _)
    ·rfl
   ·cases h
def zl (P:Program) (R:Array Oper) (dep:Nat) (tgt:List Nat) (k:Nat) (o:Oper) (c:Cf):Option Cf:=
 match o.op with
 | .call ⟨.builtin .append,⟨[s,x]⟩,ts⟩=>bif Dl R tgt k then match JW P c ts.toList (eG c.toCs s) (eG c.toCs x) with
  |some (i,n,size,es,l)=>bif dW R k && (Nat.beq i (tgt.getD k 0) && (iJ (cZ R dep k) (.sl (aU R dep k) 0 (n+1) ⟨size,0⟩) && zC c tgt (sG P R tgt k) o [])) then
    some ((((c.rY i).setB (aU R dep k) (.row es false)).put o.dst (.sl (aU R dep k) 0 (n+1) ⟨size,0⟩)).Gl l) else none
  |none=>none
  else none
 |_=>none
def FY (P:Program) (X:aB) (R:Array Oper) (dep:Nat) (tgt:List Nat) (k:Nat) (o:Oper) (c:Cf):Option Cf:=
 match callParts o.op with
 |none=>match opY P c.bk (eG c.toCs) o.type o.op with
  |some (.val d,l)=>bif Nat.ble (kindOf P o.op) 1 && (iJ (cZ R dep k) d && (Nat.beq (kindOf P o.op) 0 || zC c tgt (sG P R tgt k) o [])) then some ((c.put o.dst d).Gl l) else none
  |some (.box cs,l)=>bif Nat.ble (kindOf P o.op) 1 && (dW R k && (jO (aU R dep k::cZ R dep k) cs && (iJ (cZ R dep k) (.ptr (aU R dep k) 0) && zC c tgt (sG P R tgt k) o []))) then some (((c.setB (aU R dep k) (.cells cs false)).put o.dst (.ptr (aU R dep k) 0)).Gl l) else none
  |some (.row cs n sz,l)=>bif Nat.ble (kindOf P o.op) 1 && (dW R k && (jO (aU R dep k::cZ R dep k) cs && (iJ (cZ R dep k) (.sl (aU R dep k) 0 n ⟨sz,0⟩) && zC c tgt (sG P R tgt k) o []))) then some (((c.setB (aU R dep k) (.cells cs false)).put o.dst (.sl (aU R dep k) 0 n ⟨sz,0⟩)).Gl l) else none
  |some (.app s sz m ds,l)=>bif XO s && (Nat.ble (kindOf P o.op) 1 && (dW R k && (jO (aU R dep k::cZ R dep k) ds && (iJ (cZ R dep k) (.sl (aU R dep k) 0 m ⟨sz,0⟩) && zC c tgt (sG P R tgt k) o [])))) then some (((c.setB (aU R dep k) (.cells ds false)).put o.dst (.sl (aU R dep k) 0 m ⟨sz,0⟩)).Gl l) else none
  |some (.row0,l)=>bif Nat.ble (kindOf P o.op) 1 && zC c tgt (sG P R tgt k) o [] then some ((c.put o.dst .emp).Gl l) else none
  |some (.sto i off ds,l)=>bif Nat.beq (kindOf P o.op) 2 && (jO (cZ R dep k) ds && (!(uB P R k) || Nat.beq i (tgt.getD k 0))) then(match lq c o.dst 0 (.sto i off ds) with | some c'=>some (c'.Gl l) | none=>none) else none
  |some (.cpy i off ds n,l)=>bif Nat.beq (kindOf P o.op) 4 && jO (cZ R dep k) ds then(match lq c o.dst 0 (.cpy i off ds n) with | some c'=>some (c'.Gl l) | none=>none) else none
  |_=>none
 |some (fo,args)=>match eG c.toCs fo with
  | .fn f caps=>match jq P f with
   |none=>match caps,D.qX (args.toList.map (eG c.toCs)) with
    |[],some vs=>match abB P X f vs with
     |some (u,l)=>bif iJ (cZ R dep k) (D.l7 u) && zC c tgt (sG P R tgt k) o [] then some ((c.put o.dst (D.l7 u)).Gl l) else none
     |none=>none
    |_,_=>none
   |some _=>match callOf X f with
    |none=>none
    |some g=>match fU (dU c.bk depth) (args.toList.map (eG c.toCs) ++ caps) with
     |none=>none
     |some (as,passed,l)=>match g as with
      |none=>none
      |some (res,l')=>bif dW R k && (iJ (cZ R dep k) (eH (aU R dep k) res).1 && (xH (aU R dep k::cZ R dep k) (eH (aU R dep k) res).2 && (Nat.ble (eH (aU R dep k) res).2.length 32 && zC c tgt (sG P R tgt k) o passed))) then
        some (((o9 (bif flat res then c else c.eU passed) (aU R dep k) (eH (aU R dep k) res).2).put o.dst (eH (aU R dep k) res).1).Gl (l ++ l')) else none
  |_=>none
def vO (P:Program) (R:Array Oper) (dep:Nat) (tgt:List Nat) (k:Nat) (o:Oper) (c:Cf):Option Cf:=
 match o.op with
 | .store t a x=>match eG c.toCs a,(eG c.toCs x).cells with
  | .pel id _ _ _,some ds=>bif Nat.beq (kindOf P o.op) 2 && (jO (cZ R dep k) ds && (!(uB P R k) || Nat.beq id (tgt.getD k 0))) then(match oL P c o.dst t (eG c.toCs a) (eG c.toCs x) with | some (c',l)=>some (c'.Gl l) | none=>none) else none
  |_,_=>none
 |_=>none
def ER (P:Program) (R:Array Oper) (dep:Nat) (tgt:List Nat) (k:Nat) (o:Oper) (c:Cf):Option Cf:=
 match o.op with
 | .call ⟨.builtin .append,⟨[s,x]⟩,ts⟩=>match Dk P c ts.toList (eG c.toCs s) (eG c.toCs x) with
  |some (m,size,c0,l)=>bif dW R k && (iJ (cZ R dep k) (.sl (aU R dep k) 0 m ⟨size,0⟩) && zC c tgt (sG P R tgt k) o []) then
    some (((c.setB (aU R dep k) (.row c0 false)).put o.dst (.sl (aU R dep k) 0 m ⟨size,0⟩)).Gl l) else none
  |none=>none
 |_=>none
def y9 (P:Program) (R:Array Oper) (dep:Nat) (tgt:List Nat) (k:Nat) (o:Oper) (c:Cf):Option Cf:=
 match o.op with
 | .call ⟨.builtin .append,⟨[s,x]⟩,ts⟩=>bif Dl R tgt k then match JM P c ts.toList (eG c.toCs s) (eG c.toCs x) with
  |some (i,n,m,size,es,l)=>bif dW R k && (Nat.beq i (tgt.getD k 0) && (iJ (cZ R dep k) (.sl (aU R dep k) 0 (n+m) ⟨size,0⟩) && zC c tgt (sG P R tgt k) o [])) then
    some ((((c.rY i).setB (aU R dep k) (.row es false)).put o.dst (.sl (aU R dep k) 0 (n+m) ⟨size,0⟩)).Gl l) else none
  |none=>none
  else none
 |_=>none
def FZ (P:Program) (X:aB) (R:Array Oper) (dep:Nat) (tgt:List Nat) (k:Nat) (o:Oper) (c:Cf):Option Cf:=
 match zl P R dep tgt k o c with
 |some c'=>some c'
 |none=>match vO P R dep tgt k o c with
  |some c'=>some c'
  |none=>match ER P R dep tgt k o c with
   |some c'=>some c'
   |none=>match y9 P R dep tgt k o c with
    |some c'=>some c'
    |none=>FY P X R dep tgt k o c
def J9 (P:Program) (X:aB) (E:List Oper→Cf→Option (Ex×Cf)) (R:Array Oper) (dep:Nat) (tgt:List Nat) (k:Nat) (o:Oper) (c:Cf):Option Cf:=
 bif tB R k then match E [o] c with
  |some (.normal,c1)=>some (nY (cZ R dep k) c1)
  |_=>none
 else match Cm R o c with
  |none=>none
  |some (false,c1)=>some (c1.put o.dst (.v undef))
  |some (true,c1)=>FZ P X R dep tgt k o c1
def xI (P:Program) (X:aB) (E:List Oper→Cf→Option (Ex×Cf)) (R:Array Oper) (dep:Nat) (tgt:List Nat):Nat→List Oper→Cf→Option Cf
 |_,[],c=>some c
 |k,o::l,c=>match J9 P X E R dep tgt k o c with
  |none=>none
  |some c'=>xI P X E R dep tgt (k+1) l c'
def OB (f:TT×Nat):List (Tmp×D)→TT×Nat
 |[]=>f
 |(t,d)::l=>OB (f.1.set (bif Nat.blt t f.2 then d else .undef) (path t),f.2) l
theorem Ik:∀ (ps:List (Tmp×D)) (f:TT×Nat),iY (OB f ps)=(iY f).puts ps
 |[],f=>rfl
 |(t,d)::ps,f=>by
  show iY (OB _ ps)=((iY f).put t d).puts ps
  rw[Ik ps,NR]
theorem QH:∀ p,TT.get p .lf= .undef
 |[]=>rfl
 |b::p=>QH p
def Cf.round (c:Cf) (f:TT×Nat) (ps:List (Tmp×D)):Cf:={ tm:=(OB f ps).1,nt:=(OB f ps).2,stk:=(c.tm,c.nt)::c.stk,bk:=c.bk,loop:=c.loop,gen:=c.gen,todo:=c.todo,cds:=c.cds }
theorem UO (c:Cf) (f:TT×Nat) (ps:List (Tmp×D)):(c.round f ps).abs=c.abs.round (iY f) ps:=by
 simp only[Cf.round,Cf.abs,Cs.abs,St.round,List.map_cons]
 congr 1
 exact Ik ps f
def Cf.at (c:Cf) (L:jK) (s:vK):Cf:={ c with loop:=some { L with state:=s } }
def Cf.ranged (c:Cf) (ps:Array Tmp) (assign body:Code) (caps:List D) (nt:Nat):Cf:=
  { tm:=TT.mk (EI (.yld::caps) ((.yld::caps).length+(nt - (.yld::caps).length))) ((.yld::caps).length+(nt - (.yld::caps).length)+1) 0 1,nt:=(.yld::caps).length+(nt - (.yld::caps).length),
    stk:=((c.forget dI).tm,(c.forget dI).nt)::(.lf,1)::(c.forget dI).stk,bk:=(c.forget dI).bk,loop:=some { ps:=ps,assign:=assign,body:=body,depth:=c.stk.length+2,state:= .ready },gen:=c.gen,todo:=c.todo,cds:=c.cds }
theorem QY (c:Cf) (ps:Array Tmp) (assign body:Code) (caps:List D) (nt:Nat):(c.ranged ps assign body caps nt).abs=c.abs.ranged ps assign body caps nt:=by
 have h:=bW c dI
 have h1:=congrArg St.fr h
 have h2:=congrArg St.stk h
 have h3:=congrArg St.bk h
 simp only[Cf.ranged,St.ranged,←h1,←h2,←h3]
 simp only[Cf.abs,Cs.abs,List.map_cons]
 congr 1
 ·exact KW _ _
 ·congr 2
  simp only[iY,ghost,QH]
 ·simp
end
end Go.Dam
end

section
namespace Go.Dam
open Go Go.RowKit
variable [gB]
noncomputable section
theorem pR {lo id:Nat}:∀ {los:List Nat},lo∈los→lo≤id→id<lo+32→tV los id=true
 |l::los,h,h1,h2=>by
  simp only[tV,Bool.or_eq_true,Bool.and_eq_true]
  rcases List.mem_cons.1 h with rfl | h
  ·exact .inl ⟨by simpa using h1,by simpa [Nat.blt_eq] using h2⟩
  ·exact .inr (pR h h1 h2)
theorem vC {los:List Nat} {lo id:Nat} {d:D} (h:iJ los d=true) (h0:lo∈los) (h1:lo≤id) (h2:id<lo+32):d.has id=false:=by
 cases los with
 |nil=>cases h0
 |cons l los=>exact sZ (pR h0 h1 h2) d h
theorem gZ {los:List Nat}:∀ {ds:List D},jO los ds=true→∀ d∈ds,iJ los d=true
 |d::ds,h,e,he=>by
  simp only[jO,Bool.and_eq_true] at h
  rcases List.mem_cons.1 he with rfl | he
  ·exact h.1
  ·exact gZ h.2 e he
theorem Az {l:Nat} {los:List Nat} {d:D} (h:iJ (l::los) d=true):iJ los d=true:=by
 cases los with
 |nil=>rfl
 |cons m los=>
  simp only[iJ] at h ⊢
  have mono:∀ (q q':Nat→Bool),(∀ i,q' i=true→q i=true)→∀ d,D.clear q d=true→D.clear q' d=true:=by
   intro q q' hq
   have key:∀ i,(!(q i))=true→(!(q' i))=true:=fun i h=>by
    cases e:q' i with
    |false=>rfl
    |true=>rw[hq i e] at h;cases h
   intro d
   refine D.rec (motive_1:=fun d=>D.clear q d=true→D.clear q' d=true) (motive_2:=fun ds=>D.qo q ds=true→D.qo q' ds=true) ?_ ?_ ?_ ?_ ?_ ?_ ?_ ?_ ?_ ?_ ?_ ?_ ?_ ?_ ?_ ?_ ?_ d
   all_goals first
    |(intros;rfl)
    |(intros;simp only[D.clear] at *;apply key;assumption)
    |(intro cs ih h;simp only[D.clear] at h ⊢;exact ih h)
    |(intro f cs ih h;simp only[D.clear] at h ⊢;exact ih h)
    |(intro d ds h1 h2 h;simp only[D.qo,Bool.and_eq_true] at h ⊢;exact⟨h1 h.1,h2 h.2⟩)
  refine mono _ _ (fun i hi=>?_) d h
  simp only[tV,Bool.or_eq_true] at hi ⊢
  exact .inr hi
section
variable {P:Program} {F:FuncId→List D→D→Prop} {R:Array Oper} {dep:Nat} {tgt:List Nat}
theorem Ec {k l:Nat} {id:Nat} (hW:(bI P R dep tgt).W k l=true) (hid:id∈(bI P R dep tgt).zs l):aU R dep l∈cZ R dep k∧aU R dep l≤id∧id<aU R dep l+32:=by
 simp only[bI] at hid hW
 cases hm:dW R l with
 |false=>rw[hm,cond_false] at hid;cases hid
 |true=>
  rw[hm,cond_true,List.mem_range'_1] at hid
  refine⟨?_,hid.1,hid.2⟩
  simp only[cZ,List.mem_map,List.mem_filter,List.mem_range,Bool.and_eq_true]
  exact⟨l,⟨yc hm,hW,hm⟩,rfl⟩
theorem gW {k:Nat} {d:D} (h:iJ (cZ R dep k) d=true):sF (bI P R dep tgt) k d:=by
 intro l hW id hid
 obtain⟨h1,h2,h3⟩:=Ec hW hid
 exact vC h h1 h2 h3
theorem Gy {k:Nat} (c:Cf):∀ l,(bI P R dep tgt).W k l=true→∀ id∈(bI P R dep tgt).zs l,Unused id (nY (cZ R dep k) c).abs:=by
 intro l hW id hid
 obtain⟨h1,h2,h3⟩:=Ec hW hid
 cases ho:cZ R dep k with
 |nil=>rw[ho] at h1;cases h1
 |cons lo los=>
  simp only[nY]
  rw[wY]
  rw[ho] at h1
  exact zW (pR h1 h2 h3) _
theorem uZ (c:Cf):∀ l,∀ id∈(bI P R dep tgt).zs l,Unused id (nY (lZ R dep) c).abs:=by
 intro l id hid
 simp only[bI] at hid
 cases hm:dW R l with
 |false=>rw[hm,cond_false] at hid;cases hid
 |true=>
  rw[hm,cond_true,List.mem_range'_1] at hid
  have h1:aU R dep l∈lZ R dep:=by
   simp only[lZ,List.mem_map,List.mem_filter,List.mem_range]
   exact⟨l,⟨yc hm,hm⟩,rfl⟩
  cases ho:lZ R dep with
  |nil=>rw[ho] at h1;cases h1
  |cons lo los=>
   simp only[nY]
   rw[wY]
   rw[ho] at h1
   exact zW (pR h1 hid.1 hid.2) _
theorem P6 {R':Array Oper} {l:List Oper} {σ:St} {los:List Nat} {c:Cf} (h:Runs P F (.ops R' l) σ .normal c.abs):Runs P F (.ops R' l) σ .normal (nY los c).abs:=by
 cases los with
 |nil=>exact h
 |cons lo los=>simp only[nY];rw[wY];exact .after h
theorem Me {j:Job} {e:Ex} {σ':St} {los:List Nat} {c:Cf} (hp:j.plain=true) (h:Runs P F j (nY los c).abs e σ'):Runs P F j c.abs e σ':=by
 cases los with
 |nil=>exact h
 |cons lo los=>simp only[nY] at h;rw[wY] at h;exact .wipe hp h
theorem sO {c:Cf} {S:List Nat} {o:Oper} {r:QR} (h:zC c tgt S o r.told=true):∀ j∈S,Sep (bn c.abs) o (tgt.getD j 0) r:=by
 intro j hj
 simp only[zC,List.all_eq_true] at h
 have h1:=h j hj
 simp only[dw,Bool.and_eq_true,Bool.not_eq_true',List.all_eq_true] at h1
 refine⟨fun y hy=>sZ (Nat.beq_refl _) _ (h1.1 y (by simpa using hy)),fun hm=>?_⟩
 have:=h1.2
 rw[List.contains_iff_mem.2 hm] at this
 cases this
theorem Em:∀ (bs:List BX) (cs:List (List D)) (c:Cf) (id:Nat),bs.map BX.blk=cs.map (fun cs=>⟨cs,false⟩)→(o9 c id bs).abs={ c.abs with bk:=fun i=>match kX i (news id cs) with | some b=>some b | none=>c.abs.bk i }
 |[],[],c,id,_=>rfl
 |[],_::_,_,_,h=>by simp at h
 |_::_,[],_,_,h=>by simp at h
 |b::bs,x::cs,c,id,h=>by
  simp only[List.map_cons,List.cons.injEq] at h
  simp only[o9]
  rw[Em bs cs _ _ h.2]
  rw[bD,h.1]
  refine St.ext' rfl rfl ?_ rfl
  funext i
  simp only[St.setB,news,kX]
  by_cases e:i=id
  ·subst e
   rw[fQ (i:=i) (l:=news (i+1) cs) (fun cs' hm=>by have:=(mX hm).1;omega)]
   simp
  ·rw[if_neg e,if_neg (Ne.symm e)]
@[simp] theorem SK:∀ (bs:List BX) (c:Cf) (id:Nat),(o9 c id bs).cds=c.cds
 |[],_,_=>rfl
 |b::bs,c,id=>by simp[o9,SK bs]
theorem TM:∀ {bs:List (List D)} {id i:Nat} {cs:List D},(i,cs)∈news id bs→i<id+bs.length
 |c::bs,id,i,cs,h=>by
  simp only[news,List.mem_cons,Prod.mk.injEq] at h
  rcases h with⟨rfl,rfl⟩ | h
  ·simp
  ·have:=TM h;simp;omega
theorem Ei:∀ (bs:List (List D)) (id:Nat),((news id bs).map (·.1)).Nodup
 |[],_=> .nil
 |c::bs,id=>by
  simp only[news,List.map_cons,List.nodup_cons]
  refine⟨fun h=>?_,Ei bs (id+1)⟩
  simp only[List.mem_map] at h
  obtain⟨⟨i,cs⟩,h1,h2⟩:=h
  simp only at h2
  subst h2
  have:=(mX h1).1
  omega
theorem Ci (c:Cf) (dst:Option Tmp) (d:D):c.abs.q dst ⟨d,[],[],[],none⟩=(c.put dst d).abs:=by
 rw[bJ];simp only[St.q];congr 1
theorem aiP (c:Cf) (dst:Option Tmp) (d:D) (id:Nat) (cs:List D):c.abs.q dst ⟨d,[(id,cs)],[],[],none⟩=((c.setB id (.cells cs false)).put dst d).abs:=by
 rw[bJ,bD];simp only[St.q,St.setB,BX.blk];congr 1
 congr 1
 funext i
 simp only[lm,kX]
 by_cases e:i=id
 ·subst e;simp
 ·rw[if_neg e,if_neg (Ne.symm e)];simp
theorem wX {los:List Nat}:∀ {bs:List BX} {cs:List (List D)},bs.map BX.blk=cs.map (fun cs=>⟨cs,false⟩)→xH los bs=true→∀ x∈cs,∀ d∈x,iJ los d=true
 |[],[],_,_,x,hx=>by cases hx
 |[],_::_,h,_,_,_=>by simp at h
 |_::_,[],h,_,_,_=>by simp at h
 |b::bs,y::cs,h,hc,x,hx=>by
  simp only[List.map_cons,List.cons.injEq] at h
  simp only[xH,Bool.and_eq_true] at hc
  rcases List.mem_cons.1 hx with rfl | hx
  ·intro d hd
   cases b with
   |cells cs ro=>
    have:=congrArg dR.cells h.1
    simp only[BX.blk] at this;subst this
    exact gZ hc.1 d hd
   |row cols ro=>
    have:=congrArg dR.cells h.1
    simp only[BX.blk] at this;subst this
    obtain⟨v,rfl⟩:=fA hd
    cases los<;>rfl
  ·exact wX h.2 hc.2 x hx
theorem GK {O:Oper→St→St→Prop} {X:aB} (hX:bG P X) {k:Nat} {o:Oper} {c c':Cf} (hk:R[k]? =some o)
  (h:FY P X R dep tgt k o c=some c') (hl:aI c'.cds):aI c.cds∧(bf R o c.abs=some true→(∀ id∈(bI P R dep tgt).zs k,Unused id c.abs)→fC P (CallsD P) O R (bI P R dep tgt) k o c.abs c'.abs):=by
 have own:∀ id,dW R k=true→aU R dep k≤id→id<aU R dep k+32→id∈(bI P R dep tgt).zs k:=fun id hm h1 h2=>by
  simp only[bI];rw[hm,cond_true,List.mem_range'_1];exact⟨h1,h2⟩
 have blk:bf R o c.abs=some true→(∀ id∈(bI P R dep tgt).zs k,Unused id c.abs)→∀ d cs,dW R k=true→jO (aU R dep k::cZ R dep k) cs=true→iJ (cZ R dep k) d=true→zC c tgt (sG P R tgt k) o []=true→CO P (CallsD P) o (bn c.abs) c.abs.bk ⟨d,[(aU R dep k,cs)],[],[],none⟩→
   fC P (CallsD P) O R (bI P R dep tgt) k o c.abs ((c.setB (aU R dep k) (.cells cs false)).put o.dst d).abs:=by
  intro hw hu d cs hm hcl hd hsep hop
  rw[←aiP]
  have hmem:aU R dep k∈(bI P R dep tgt).zs k:=own _ hm (Nat.le_refl _) (by omega)
  refine .op hw hop ?_ (by simp) (gW hd) ?_ (.inr (sO hsep)) (fun g h=>by cases h)
  ·intro i cs' hi
   simp only[List.mem_singleton,Prod.mk.injEq] at hi
   obtain⟨rfl,rfl⟩:=hi
   refine⟨hmem,hu _ hmem,fun j cs'' hj=>?_⟩
   simp only[List.mem_singleton,Prod.mk.injEq] at hj
   obtain⟨rfl,rfl⟩:=hj
   exact bV fun d hd'=>vC (gZ hcl d hd') (by simp) (Nat.le_refl _) (by omega)
  ·intro i cs' hi d' hd'
   simp only[List.mem_singleton,Prod.mk.injEq] at hi
   obtain⟨rfl,rfl⟩:=hi
   exact gW (Az (gZ hcl d' hd'))
 have opd:∀ {e:Eff} {l:List Prop},opY P c.bk (eG c.toCs) o.type o.op=some (e,l)→aI l→dB P c.abs.bk (bn c.abs) o.type o.op=some e:=fun h hl=>by
  have:=Ny h hl
  rwa[dw] at this
 unfold FY at h
 split at h
 next hcp=>
  split at h
  next d l hop=>
   simp only[cond_eq_ite] at h
   split at h
   next hb=>
    simp only[Option.some.injEq] at h;subst h
    simp only[eX,dZ,aW] at hl
    simp only[Bool.and_eq_true,Bool.or_eq_true] at hb
    refine⟨hl.2,fun hw hu=>?_⟩
    rw[iO,←Ci]
    refine .op hw (.val (Nat.le_of_ble_eq_true hb.1) (opd hop hl.1)) (fun i cs h=>by cases h) .nil (gW hb.2.1) (fun i cs h=>by cases h) ?_ (fun g h=>by cases h)
    rcases hb.2.2 with h | h
    ·exact .inl (Nat.eq_of_beq_eq_true h)
    ·exact .inr (sO h)
   next=>cases h
  next cs l hop=>
   simp only[cond_eq_ite] at h
   split at h
   next hb=>
    simp only[Option.some.injEq] at h;subst h
    simp only[eX,dZ,jh,aW] at hl
    simp only[Bool.and_eq_true] at hb
    exact⟨hl.2,fun hw hu=>blk hw hu _ cs hb.2.1 hb.2.2.1 hb.2.2.2.1 hb.2.2.2.2 (.box (Nat.le_of_ble_eq_true hb.1) (opd hop hl.1))⟩
   next=>cases h
  next cs n sz l hop=>
   simp only[cond_eq_ite] at h
   split at h
   next hb=>
    simp only[Option.some.injEq] at h;subst h
    simp only[eX,dZ,jh,aW] at hl
    simp only[Bool.and_eq_true] at hb
    exact⟨hl.2,fun hw hu=>blk hw hu _ cs hb.2.1 hb.2.2.1 hb.2.2.2.1 hb.2.2.2.2 (.row (Nat.le_of_ble_eq_true hb.1) (opd hop hl.1))⟩
   next=>cases h
  next s sz m ds l hop=>
   simp only[cond_eq_ite] at h
   split at h
   next hb=>
    simp only[Option.some.injEq] at h;subst h
    simp only[eX,dZ,jh,aW] at hl
    simp only[Bool.and_eq_true] at hb
    have hs:s= .emp∨∃ u,s= .v u:=by
     have:=hb.1
     unfold XO at this
     split at this
     ·exact .inl rfl
     ·exact .inr ⟨_,rfl⟩
     ·cases this
    exact⟨hl.2,fun hw hu=>blk hw hu _ ds hb.2.2.1 hb.2.2.2.1 hb.2.2.2.2.1 hb.2.2.2.2.2 (.app0 (Nat.le_of_ble_eq_true hb.2.1) (opd hop hl.1) hs)⟩
   next=>cases h
  next l hop=>
   simp only[cond_eq_ite] at h
   split at h
   next hb=>
    simp only[Option.some.injEq] at h;subst h
    simp only[eX,dZ,aW] at hl
    simp only[Bool.and_eq_true] at hb
    refine⟨hl.2,fun hw hu=>?_⟩
    rw[iO,←Ci]
    exact .op hw (.row0 (Nat.le_of_ble_eq_true hb.1) (opd hop hl.1)) (fun i cs h=>by cases h) .nil (fun _ _ _ _=>rfl) (fun i cs h=>by cases h) (.inr (sO hb.2)) (fun g h=>by cases h)
   next=>cases h
  next i off ds l hop=>
   simp only[cond_eq_ite] at h
   split at h
   next hb=>
    simp only[Bool.and_eq_true] at hb
    split at h
    next c1 hst=>
     simp only[Option.some.injEq] at h;subst h
     simp only[lq] at hst
     split at hst
     next cells hbk=>
      split at hst
      next hlen=>
       simp only[Option.some.injEq] at hst;subst hst
       simp only[eX,dZ,jh,aW] at hl
       refine⟨hl.2,fun hw hu=>?_⟩
       rw[iO,bJ,bD]
       exact .sto hw (Nat.eq_of_beq_eq_true hb.1) (opd hop hl.1) (dY hbk) hlen (fun d hd=>gW (gZ hb.2.1 d hd)) (fun hU=>by
        have hU:uB P R k=true:=hU
        have h2:=hb.2.2
        rw[hU] at h2
        have h2:Nat.beq i (tgt.getD k 0)=true:=h2
        exact Nat.eq_of_beq_eq_true h2)
      next=>cases hst
     next=>cases hst
    ·cases h
   next=>cases h
  next i off ds n l hop=>
   simp only[cond_eq_ite] at h
   split at h
   next hb=>
    simp only[Bool.and_eq_true] at hb
    split at h
    next c1 hst=>
     simp only[Option.some.injEq] at h;subst h
     simp only[lq] at hst
     split at hst
     next cells hbk=>
      split at hst
      next hlen=>
       simp only[Option.some.injEq] at hst;subst hst
       simp only[eX,dZ,jh,aW] at hl
       refine⟨hl.2,fun hw hu=>?_⟩
       rw[iO,bJ,bD]
       exact .cpy hw (Nat.eq_of_beq_eq_true hb.1) (opd hop hl.1) (dY hbk) hlen (fun d hd=>gW (gZ hb.2 d hd))
      next=>cases hst
     next cols hbk=>
      split at hst
      next hlen=>
       simp only[Option.some.injEq] at hst;subst hst
       simp only[eX,dZ,jh,aW] at hl
       refine⟨hl.2,fun hw hu=>?_⟩
       rw[iO,bJ,bD,BX.Ye]
       exact .cpy hw (Nat.eq_of_beq_eq_true hb.1) (opd hop hl.1) (FV hbk) hlen (fun d hd=>gW (gZ hb.2 d hd))
      next=>cases hst
     next=>cases hst
    ·cases h
   next=>cases h
  next=>cases h
 next fo args hcp=>
  split at h
  next f caps hfo=>
   have hfo':bn c.abs fo= .fn f caps:=by rw[←dw];exact hfo
   split at h
   next hbody=>
    split at h
    next vs hpl=>
     split at h
     next u l hrun=>
      simp only[cond_eq_ite] at h
      split at h
      next hb=>
       simp only[Option.some.injEq] at h;subst h
       simp only[eX,dZ,aW] at hl
       simp only[Bool.and_eq_true] at hb
       refine⟨hl.2,fun hw hu=>?_⟩
       rw[iO,←Ci]
       exact .op hw (.ext hcp hfo' (by rw[←dw];exact hpl) (G9 hX hrun hl.1)) (fun i cs h=>by cases h) .nil (gW hb.1) (fun i cs h=>by cases h) (.inr (sO hb.2)) (fun g h=>by cases h)
      next=>cases h
     next=>cases h
    next=>cases h
   next fnb hbody=>
    split at h
    ·cases h
    next g hg=>
    split at h
    ·cases h
    next as passed l hsh=>
     split at h
     ·cases h
     next res l' hres=>
      simp only[cond_eq_ite] at h
      split at h
      next hb=>
       simp only[Option.some.injEq] at h;subst h
       simp only[Bool.and_eq_true] at hb
       obtain⟨hm,hd,hcl,hlen,hsep⟩:=hb
       have hcd:aI (l ++ l' ++ c.cds):=by
        have:=hl
        simp only[eX,dZ,SK] at this
        cases hf:flat res<;>simpa [hf] using this
       rw[aW,aW] at hcd
       obtain⟨⟨hl1,hl2⟩,hl3⟩:=hcd
       have hlen':=Nat.le_of_ble_eq_true hlen
       obtain⟨as',ks1,ks2⟩:=fJ (fun d e ids l h hl=>kR depth d e ids l h hl) _ as passed l hsh hl1
       have ht:=vG res (aU R dep k)
       have hlt:(eH (aU R dep k) res).2.length=(thaw (aU R dep k) res).2.length:=by have:=congrArg List.length ht.2;simpa using this
       have hcall:CallsD P f as' res:=fun w A vs hv low glo=>hX.call f g (AB hg) as res l' hres hl2 w A vs (ks2.aas hv) low glo
       have hq:CO P (CallsD P) o (bn c.abs) c.abs.bk ⟨(thaw (aU R dep k) res).1,(thaw (aU R dep k) res).2.zipIdx.map fun (cs,j)=>(aU R dep k+j,cs),if flat res then[] else passed,passed,none⟩:=
        .call hcp hfo' (by rw[hbody];rfl) (by rw[←dw];exact ks1) hcall
       have hne:=KQ (thaw (aU R dep k) res).2 (aU R dep k) 0
       simp only[Nat.add_zero] at hne
       rw[hne] at hq
       have e:(((o9 (if flat res=true then c else c.eU passed) (aU R dep k) (eH (aU R dep k) res).2).put o.dst (eH (aU R dep k) res).1).Gl (l ++ l')).abs =
         c.abs.q o.dst ⟨(thaw (aU R dep k) res).1,news (aU R dep k) (thaw (aU R dep k) res).2,if flat res then[] else passed,passed,none⟩:=by
        rw[iO,bJ,Em _ _ _ _ ht.2,ht.1]
        simp only[St.q]
        congr 1
        refine St.ext' ?_ ?_ ?_ (by cases flat res<;>rfl)
        ·cases flat res<;>rfl
        ·cases flat res<;>rfl
        ·funext i
         simp only[lm]
         cases kX i (news (aU R dep k) (thaw (aU R dep k) res).2) with
         |some b=>rfl
         |none=>
          cases flat res with
          |true=>simp
          |false=>simp[Yj,St.eU]
       refine⟨hl3,fun hw hu=>?_⟩
       rw[e]
       have hin:∀ i cs,(i,cs)∈news (aU R dep k) (thaw (aU R dep k) res).2→aU R dep k≤i∧i<aU R dep k+32:=fun i cs hi=>⟨(mX hi).1,by have:=TM hi;omega⟩
       have hclm:=wX ht.2 hcl
       refine .op hw hq ?_ (Ei _ _) (gW (by rw[←ht.1];exact hd)) ?_ (.inr (sO hsep)) (fun g h=>by cases h)
       ·intro i cs hi
        obtain⟨h1,h2⟩:=hin i cs hi
        have hz:=own i hm h1 h2
        refine⟨hz,hu i hz,fun j cs' hj=>?_⟩
        exact bV fun d hd'=>vC (hclm cs' (mX hj).2 d hd') (by simp) h1 h2
       ·intro i cs hi d' hd'
        exact gW (Az (hclm cs (mX hi).2 d' hd'))
      next=>cases h
  next=>cases h
theorem Y5 (c:Cf) (dst:Option Tmp) (d:D) (i id:Nat) (es:List aH):c.abs.q dst ⟨d,[(id,aA es)],[],[],some i⟩=(((c.rY i).setB id (.row es false)).put dst d).abs:=by
 rw[bJ,bD,Nq];simp only[St.q,St.setB,St.dO,BX.blk];congr 1
 congr 1
 funext j
 simp only[lm,kX]
 by_cases e:j=id
 ·subst e;simp
 ·rw[if_neg e,if_neg (Ne.symm e)]
  by_cases e2:j=i
  ·subst e2;simp
  ·have:¬ i=j:=fun h=>e2 h.symm
   simp[e2,this]
theorem Dn {O:Oper→St→St→Prop} {k:Nat} {o:Oper} {c c':Cf}
  (h:zl P R dep tgt k o c=some c') (hl:aI c'.cds):aI c.cds∧(bf R o c.abs=some true→(∀ id∈(bI P R dep tgt).zs k,Unused id c.abs)→fC P (CallsD P) O R (bI P R dep tgt) k o c.abs c'.abs):=by
 unfold zl at h
 split at h
 next s x ts hop=>
  simp only[cond_eq_ite] at h
  split at h
  next hgr=>
   split at h
   next i n size es l hg=>
    split at h
    next hb=>
     simp only[Option.some.injEq] at h;subst h
     simp only[Bool.and_eq_true] at hb
     obtain⟨hm,hi,hd,hsep⟩:=hb
     have hcd:aI (l ++ c.cds):=by simpa [eX,dZ,jh,Cf.rY] using hl
     rw[aW] at hcd
     rw[dw] at hg
     obtain⟨sz,ds,cells,k0,k1,k2,k3,k4⟩:=JL hg hcd.1
     refine⟨hcd.2,fun hw hu=>?_⟩
     rw[iO,←Y5]
     have hz:aU R dep k∈(bI P R dep tgt).zs k:=by
      simp only[bI];rw[hm,cond_true,List.mem_range'_1];exact⟨Nat.le_refl _,by show _<aU R dep k+32;omega⟩
     have hq:CO P (CallsD P) o (bn c.abs) c.abs.bk ⟨.sl (aU R dep k) 0 (n+1) ⟨size,0⟩,[(aU R dep k,aA es)],[],[],some i⟩:=by
      rw[k4]
      refine .grow ?_ ⟨s,?_,k0⟩ (sz:=sz) (ds:=ds) (cells:=cells) ?_ (fun h=>by cases h) k2 k3
      ·rw[hop];rfl
      ·rw[hop];simp[Op.operands,Call.operands]
      ·rw[hop];exact k1
     have hv:∀ d∈aA es,∀ id,d.has id=false:=fun d hd id=>by obtain⟨v,rfl⟩:=fA hd;rfl
     refine .op hw hq ?_ (by simp) (gW hd) ?_ (.inr (sO hsep)) ?_
     ·intro j cs' hj
      simp only[List.mem_singleton,Prod.mk.injEq] at hj
      obtain⟨rfl,rfl⟩:=hj
      refine⟨hz,hu _ hz,fun j cs'' hj=>?_⟩
      simp only[List.mem_singleton,Prod.mk.injEq] at hj
      obtain⟨rfl,rfl⟩:=hj
      exact bV fun d hd'=>hv d hd' _
     ·intro j cs' hj d' hd'
      simp only[List.mem_singleton,Prod.mk.injEq] at hj
      obtain⟨rfl,rfl⟩:=hj
      exact fun _ _ _ _=>hv d' hd' _
     ·intro g hg'
      simp only[Option.some.injEq] at hg'
      subst hg'
      exact⟨hgr,Nat.eq_of_beq_eq_true hi⟩
    ·cases h
   ·cases h
  ·cases h
 ·cases h
theorem Bq {O:Oper→St→St→Prop} {k:Nat} {o:Oper} {c c':Cf}
  (h:vO P R dep tgt k o c=some c') (hl:aI c'.cds):aI c.cds∧(bf R o c.abs=some true→(∀ id∈(bI P R dep tgt).zs k,Unused id c.abs)→fC P (CallsD P) O R (bI P R dep tgt) k o c.abs c'.abs):=by
 unfold vO at h
 split at h
 next t a x hop=>
  split at h
  next id i w j ds ha hx=>
   simp only[cond_eq_ite] at h
   split at h
   next hb=>
    simp only[Bool.and_eq_true] at hb
    split at h
    next c1 l hst=>
     simp only[Option.some.injEq] at h;subst h
     simp only[eX,aW] at hl
     obtain⟨id',i',w',j',ds',off,cells,e1,e2,e3,e4,e5,e6,e7⟩:=JF hst hl.1
     rw[ha] at e1
     simp only[D.pel.injEq] at e1
     obtain⟨rfl,_⟩:=e1
     rw[hx] at e2
     simp only[Option.some.injEq] at e2;subst e2
     refine⟨by rw[←e7];exact hl.2,fun hw hu=>?_⟩
     rw[iO,e6]
     refine .sto hw (Nat.eq_of_beq_eq_true hb.1) ?_ e4 e5 (fun d hd=>gW (gZ hb.2.1 d hd)) (fun hU=>by
      have hU:uB P R k=true:=hU
      have h2:=hb.2.2
      rw[hU] at h2
      have h2:Nat.beq id (tgt.getD k 0)=true:=h2
      exact Nat.eq_of_beq_eq_true h2)
     rw[hop]
     simp only[dB]
     exact e3
    ·cases h
   ·cases h
  ·cases h
 ·cases h
theorem ag6 (c:Cf) (dst:Option Tmp) (d:D) (id:Nat) (cs:List aH):c.abs.q dst ⟨d,[(id,aA cs)],[],[],none⟩=((c.setB id (.row cs false)).put dst d).abs:=by
 rw[bJ,bD];simp only[St.q,St.setB,BX.blk];congr 1
 congr 1
 funext i
 simp only[lm,kX]
 by_cases e:i=id
 ·subst e;simp
 ·rw[if_neg e,if_neg (Ne.symm e)];simp
theorem GR {O:Oper→St→St→Prop} {k:Nat} {o:Oper} {c c':Cf}
  (h:ER P R dep tgt k o c=some c') (hl:aI c'.cds):aI c.cds∧(bf R o c.abs=some true→(∀ id∈(bI P R dep tgt).zs k,Unused id c.abs)→fC P (CallsD P) O R (bI P R dep tgt) k o c.abs c'.abs):=by
 unfold ER at h
 split at h
 next s x ts hop=>
  split at h
  next m size c0 l hg=>
   simp only[cond_eq_ite] at h
   split at h
   next hb=>
    simp only[Option.some.injEq] at h;subst h
    simp only[Bool.and_eq_true] at hb
    obtain⟨hm,hd,hsep⟩:=hb
    have hcd:aI (l ++ c.cds):=by simpa [eX,dZ,jh] using hl
    rw[aW] at hcd
    rw[dw] at hg
    obtain⟨k0,k1,k2⟩:=Gx hg hcd.1
    refine⟨hcd.2,fun hw hu=>?_⟩
    rw[iO,←ag6]
    have hz:aU R dep k∈(bI P R dep tgt).zs k:=by
     simp only[bI];rw[hm,cond_true,List.mem_range'_1];exact⟨Nat.le_refl _,by show _<aU R dep k+32;omega⟩
    have hq:CO P (CallsD P) o (bn c.abs) c.abs.bk ⟨.sl (aU R dep k) 0 m ⟨size,0⟩,[(aU R dep k,aA c0)],[],[],none⟩:=by
     refine .appE ?_ ?_ k2
     ·rw[hop];rfl
     ·rw[hop];exact k1
    have hv:∀ d∈aA c0,∀ id,d.has id=false:=fun d hd id=>by obtain⟨v,rfl⟩:=fA hd;rfl
    refine .op hw hq ?_ (by simp) (gW hd) ?_ (.inr (sO hsep)) (fun g h=>by cases h)
    ·intro j cs' hj
     simp only[List.mem_singleton,Prod.mk.injEq] at hj
     obtain⟨rfl,rfl⟩:=hj
     refine⟨hz,hu _ hz,fun j cs'' hj=>?_⟩
     simp only[List.mem_singleton,Prod.mk.injEq] at hj
     obtain⟨rfl,rfl⟩:=hj
     exact bV fun d hd'=>hv d hd' _
    ·intro j cs' hj d' hd'
     simp only[List.mem_singleton,Prod.mk.injEq] at hj
     obtain⟨rfl,rfl⟩:=hj
     exact fun _ _ _ _=>hv d' hd' _
   ·cases h
  ·cases h
 ·cases h
theorem F6 {O:Oper→St→St→Prop} {k:Nat} {o:Oper} {c c':Cf}
  (h:y9 P R dep tgt k o c=some c') (hl:aI c'.cds):aI c.cds∧(bf R o c.abs=some true→(∀ id∈(bI P R dep tgt).zs k,Unused id c.abs)→fC P (CallsD P) O R (bI P R dep tgt) k o c.abs c'.abs):=by
 unfold y9 at h
 split at h
 next s x ts hop=>
  simp only[cond_eq_ite] at h
  split at h
  next hgr=>
   split at h
   next i n m size es l hg=>
    split at h
    next hb=>
     simp only[Option.some.injEq] at h;subst h
     simp only[Bool.and_eq_true] at hb
     obtain⟨hm,hi,hd,hsep⟩:=hb
     have hcd:aI (l ++ c.cds):=by simpa [eX,dZ,jh,Cf.rY] using hl
     rw[aW] at hcd
     rw[dw] at hg
     obtain⟨sz,ds,cells,k0,k1,kz,k2,k3,k4⟩:=KF hg hcd.1
     refine⟨hcd.2,fun hw hu=>?_⟩
     rw[iO,←Y5]
     have hz:aU R dep k∈(bI P R dep tgt).zs k:=by
      simp only[bI];rw[hm,cond_true,List.mem_range'_1];exact⟨Nat.le_refl _,by show _<aU R dep k+32;omega⟩
     have hq:CO P (CallsD P) o (bn c.abs) c.abs.bk ⟨.sl (aU R dep k) 0 (n+m) ⟨size,0⟩,[(aU R dep k,aA es)],[],[],some i⟩:=by
      rw[k4]
      refine .grow ?_ ⟨s,?_,k0⟩ (sz:=sz) (ds:=ds) (cells:=cells) ?_ kz k2 k3
      ·rw[hop];rfl
      ·rw[hop];simp[Op.operands,Call.operands]
      ·rw[hop];exact k1
     have hv:∀ d∈aA es,∀ id,d.has id=false:=fun d hd id=>by obtain⟨v,rfl⟩:=fA hd;rfl
     refine .op hw hq ?_ (by simp) (gW hd) ?_ (.inr (sO hsep)) ?_
     ·intro j cs' hj
      simp only[List.mem_singleton,Prod.mk.injEq] at hj
      obtain⟨rfl,rfl⟩:=hj
      refine⟨hz,hu _ hz,fun j cs'' hj=>?_⟩
      simp only[List.mem_singleton,Prod.mk.injEq] at hj
      obtain⟨rfl,rfl⟩:=hj
      exact bV fun d hd'=>hv d hd' _
     ·intro j cs' hj d' hd'
      simp only[List.mem_singleton,Prod.mk.injEq] at hj
      obtain⟨rfl,rfl⟩:=hj
      exact fun _ _ _ _=>hv d' hd' _
     ·intro g hg'
      simp only[Option.some.injEq] at hg'
      subst hg'
      exact⟨hgr,Nat.eq_of_beq_eq_true hi⟩
    ·cases h
   ·cases h
  ·cases h
 ·cases h
theorem GV {O:Oper→St→St→Prop} {X:aB} (hX:bG P X) {k:Nat} {o:Oper} {c c':Cf} (hk:R[k]? =some o)
  (h:FZ P X R dep tgt k o c=some c') (hl:aI c'.cds):aI c.cds∧(bf R o c.abs=some true→(∀ id∈(bI P R dep tgt).zs k,Unused id c.abs)→fC P (CallsD P) O R (bI P R dep tgt) k o c.abs c'.abs):=by
 unfold FZ at h
 split at h
 next c2 hg=>
  simp only[Option.some.injEq] at h;subst h
  exact Dn hg hl
 ·split at h
  next c2 hg=>
   simp only[Option.some.injEq] at h;subst h
   exact Bq hg hl
  ·split at h
   next c2 hg=>
    simp only[Option.some.injEq] at h;subst h
    exact GR hg hl
   ·split at h
    next c2 hg=>
     simp only[Option.some.injEq] at h;subst h
     exact F6 hg hl
    ·exact GK hX hk h hl
theorem YC {O:Oper→St→St→Prop} {p:Plan} (ok:mJ P R p) {k m:Nat} {o:Oper} {σ σ1:St} (h:fC P F O R p k o σ σ1) (hlt:k<m) (hu:∀ id∈p.zs m,Unused id σ) (hW:p.W k m=true):∀ id∈p.zs m,Unused id σ1:=by
 intro id hid
 have hu:=hu id hid
 cases h with
 |skip _=>exact qP hu rfl (fun cs h=>by cases h) (fun i cs h=>by cases h)
 |op _ _ hm _ hd hcs _=>
  refine qP hu (hd m hW id hid) (fun cs hn=>ok.dis m k (by omega) id hid (hm id cs hn).1) (fun j cs hn=>bV fun d hd'=>hcs j cs hn d hd' m hW id hid)
 |sto _ _ _ hb _ hd _=>exact lW hu hb (bV fun d hd'=>hd d hd' m hW id hid)
 |cpy _ _ _ hb _ hd=>exact rH (lW hu hb (bV fun d hd'=>hd d hd' m hW id hid))
 |oth _ _ h=>exact h m hW id hid
theorem aem {p:Plan} (ok:mJ P R p) {i k:Nat} (h:OY R i k):i<k:=by
 induction h with
 |edge h1 h2 h3=>exact ok.low _ _ h1 _ h2 h3
 |trans h1 h2 h3 _ ih=>exact Nat.lt_trans ih (ok.low _ _ h1 _ h2 h3)
theorem IJ (los:List Nat) (c:Cf):(nY los c).cds=c.cds:=by cases los<;>rfl
theorem Le {X:aB} (hX:bG P X) {E:List Oper→Cf→Option (Ex×Cf)}
  (hE:∀ l c c',E l c=some (.normal,c')→aI c'.cds→aI c.cds∧Runs P (CallsD P) (.ops R l) c.abs .normal c'.abs) {k:Nat} {o:Oper} {c c1:Cf} (hk:R[k]? =some o)
  (h:J9 P X E R dep tgt k o c=some c1) (hl:aI c1.cds):aI c.cds∧((∀ id∈(bI P R dep tgt).zs k,Unused id c.abs)→
   ((tB R k=true∧Runs P (CallsD P) (.ops R [o]) c.abs .normal c1.abs∧∀ l,(bI P R dep tgt).W k l=true→∀ id∈(bI P R dep tgt).zs l,Unused id c1.abs)∨fC P (CallsD P) (fun _ _ _=>False) R (bI P R dep tgt) k o c.abs c1.abs)):=by
 unfold J9 at h
 cases ht:tB R k with
 |true=>
  rw[ht,cond_true] at h
  split at h
  next c2 he=>
   simp only[Option.some.injEq] at h;subst h
   rw[IJ] at hl
   obtain⟨k1,k2⟩:=hE _ _ _ he hl
   exact⟨k1,fun _=> .inl ⟨rfl,P6 k2,Gy (P:=P) (R:=R) (dep:=dep) (tgt:=tgt) (k:=k) c2⟩⟩
  ·cases h
 |false=>
  rw[ht,cond_false] at h
  split at h
  ·cases h
  next c2 hw=>
   simp only[Option.some.injEq] at h;subst h
   rw[dZ] at hl
   obtain⟨k1,k2,k3⟩:=lD hw hl
   refine⟨k1,fun _=> .inr ?_⟩
   rw[←Ci,k2]
   exact .skip k3
  next c2 hw=>
   obtain⟨q1,q2⟩:=GV (O:=fun _ _ _=>False) hX hk h hl
   obtain⟨k1,k2,k3⟩:=lD hw q1
   rw[k2] at q2
   exact⟨k1,fun hu=> .inr (q2 k3 hu)⟩
theorem wR {X:aB} (hX:bG P X) {E:List Oper→Cf→Option (Ex×Cf)}
  (hE:∀ l c c',E l c=some (.normal,c')→aI c'.cds→aI c.cds∧Runs P (CallsD P) (.ops R l) c.abs .normal c'.abs) (ok:mJ P R (bI P R dep tgt)):∀ (l:List Oper) (k:Nat) (c c':Cf),(∀ j,l[j]? =R[k+j]?)→
  xI P X E R dep tgt k l c=some c'→aI c'.cds→aI c.cds∧((∀ m,k≤m→∀ id∈(bI P R dep tgt).zs m,Unused id c.abs)→Runs P (CallsD P) (.draws R (bI P R dep tgt) k l) c.abs .normal c'.abs)
 |[],k,c,c',_,h,hl=>by simp only[xI,Option.some.injEq] at h;subst h;exact⟨hl,fun _=> .dnil⟩
 |o::l,k,c,c',hlk,h,hl=>by
  have hk:R[k]? =some o:=by simpa using (hlk 0).symm
  have hl':∀ j,l[j]? =R[k+1+j]? :=fun j=>by have:=hlk (j+1);simpa [Nat.add_assoc,Nat.add_comm 1 j] using this
  have hW:∀ m,k<m→(bI P R dep tgt).W k m=true:=fun m hm=>ok.later k m (by omega) (fun ha=>by have:=aem ok ha;omega)
  simp only[xI] at h
  split at h
  ·cases h
  next c1 h1=>
   obtain⟨j1,j2⟩:=wR hX hE ok l (k+1) c1 c' hl' h hl
   obtain⟨k1,k2⟩:=Le hX hE hk h1 j1
   refine⟨k1,fun hu=>?_⟩
   rcases k2 (hu k (Nat.le_refl _)) with⟨ht,hr,hun⟩ | hq
   ·exact .dother ht hr hun (j2 fun m hm=>hun m (hW m hm))
   ·exact .dstep hq (j2 fun m hm=>YC ok hq hm (hu m (by omega)) (hW m hm))
end
end
end Go.Dam
end
