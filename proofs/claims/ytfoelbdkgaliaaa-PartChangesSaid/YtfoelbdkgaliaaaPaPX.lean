/- What the functions compute, and the law. No condition. -/
import Derived.Test.YtfoelbdkgaliaaaPaXD
import Derived.Test.YtfoelbdkgaliaaaPaPM
set_option linter.unusedSectionVars false
set_option linter.unusedVariables false
set_option linter.unusedSimpArgs false
section
namespace TableS
open Go Go.Dam Go.Proofs
set_option maxRecDepth 1000000
def upd (us:List Bool) (f:Nat→Int) (xs:List Int):Nat→List Int
 |0=>xs
 |m+1=>if us.getD m false=true then(upd us f xs m).set m (f m) else upd us f xs m
theorem uh (us:List Bool) (f:Nat→Int) (xs:List Int):∀ m,(upd us f xs m).length=xs.length
 |0=>rfl
 |m+1=>by unfold upd;split<;>simp[uh us f xs m]
theorem Sl (us:List Bool) (f:Nat→Int) (xs:List Int):∀ m j,m≤j→(upd us f xs m).getD j 0=xs.getD j 0
 |0,_,_=>rfl
 |m+1,j,h=>by
  have ih:=Sl us f xs m j (by omega)
  unfold upd;split
  ·rw[getD_set_ne (by omega)];exact ih
  ·exact ih
theorem Tj {us:List Bool} {f:Nat→Int} {xs:List Int} {m:Nat} (h:us.getD m false=true):upd us f xs (m+1)=(upd us f xs m).set m (f m):=by rw[upd,if_pos h]
theorem WW {us:List Bool} {f:Nat→Int} {xs:List Int} {m:Nat} (h:us.getD m false=false):upd us f xs (m+1)=upd us f xs m:=by rw[upd,if_neg (by rw[h];simp)]
def Tb.lim (T:Tb) (b r p a:Int) (m:Nat):Tb:={ T with
 x1:=upd T.us (fun _=>b) T.x1 m,x2:=upd T.us (fun _=>r) T.x2 m,x3:=upd T.us (fun _=>p) T.x3 m,
 x4:=upd T.us (fun i=>cgV (T.x1.getD i 0) (T.x2.getD i 0) (T.x3.getD i 0) (T.x4.getD i 0) (T.x5.getD i 0) (T.x6.getD i 0) b a) T.x4 m,
 x5:=upd T.us (fun _=>0) T.x5 m,x6:=upd T.us (fun i=>MeterS.CU (T.x6.getD i 0) a) T.x6 m }
def dm (T:Tb) (b r p a:Int):Tb:=if nO T=0∧iV b r p=0 then T.lim b r p a T.us.length else t0
def O3 (T:Tb) (b r p:Int):Int:=if nO T=0 then iV b r p else nO T
def ZT (T:Tb) (a:Int):Prop:=uK T∧(∀ i,i<T.x1.length→0≤T.x6.getD i 0∧T.x6.getD i 0<18446744073709551616)∧0≤a∧a<18446744073709551616
theorem acC {T:Tb} {b r p a:Int} (h:ZT T a) {L F:List Int} (v:Inv T L F) (hl:iV b r p=0) {i:Nat} (hi:i<T.us.length) (hu:T.us.getD i false=true):
  Yn (T.x1.getD i 0) (T.x2.getD i 0) (T.x3.getD i 0) (T.x4.getD i 0) (T.x5.getD i 0) (T.x6.getD i 0) b r p a:=by
 obtain⟨ho,h6,ha⟩:=h
 have lens:=EO ho v
 have ul:=pz v
 exact⟨⟨v.bk i (by omega) hu,h6 i (by omega),ha⟩,ho.2.2.1 i (by omega),hl⟩
theorem aiH (T:Tb) (b r p a:Int) (h:ZT T a):CallsD Try.prog 25 [T.d, .agg [i64 b,i64 r,i64 p],u64 a] (.bF [(dm T b r p a).o,i64 (O3 T b r p)]):=by
 have ho:=h.1
 have er:=rC ho
 by_cases c1:nO T=0
 ·by_cases c2:iV b r p=0
  ·obtain⟨L,F,v⟩:=KR ho c1
   have lens:=EO ho v
   have ul:=pz v
   have w:=BN ho
   have eV:dm T b r p a=T.lim b r p a T.us.length:=by unfold dm;rw[if_pos ⟨c1,c2⟩]
   have eE:O3 T b r p=0:=by unfold O3;rw[if_pos c1];exact c2
   have u200:=ho.2.2.2.2.1
   rw[eV,eE]
   have run:Runs Try.prog (CallsD Try.prog) (.rounds (af Try.prog 25 0)) (RJ T b r p a T.x1 T.x2 T.x3 T.x4 T.x5 T.x6 0).abs (.exit 0)
     (RJ T b r p a (T.lim b r p a T.us.length).x1 (T.lim b r p a T.us.length).x2 (T.lim b r p a T.us.length).x3 (T.lim b r p a T.us.length).x4 (T.lim b r p a T.us.length).x5 (T.lim b r p a T.us.length).x6 T.us.length).abs:=by
    refine dS (fun i=>RJ T b r p a (T.lim b r p a i).x1 (T.lim b r p a i).x2 (T.lim b r p a i).x3 (T.lim b r p a i).x4 (T.lim b r p a i).x5 (T.lim b r p a i).x6 (i:Int)) T.us.length (fun _=>True) (fun i hi _ σ e hr=>?_) ?_ T.us.length 0 (by omega) (fun _ _ _=>trivial)
    ·have i1:i<T.x1.length:=by omega
     cases hu:T.us.getD i false with
     |true=>
      have cg:=acC h v c2 hi hu
      simp only[Tb.lim,Tj hu] at hr
      refine Eo T b r p a _ _ _ _ _ _ i σ e ?_ ?_ ?_<;>dsimp only[At,Tr.q,RG,EX]
      ·intro _ _
       rw[dF hi (by omega)]
       simp only[Int.toNat_natCast,aH.len,Tb.lim,uh]
       exact⟨⟨by omega,by omega,by omega,by omega,by omega,by omega,by omega,(ay i1).1,(ay i1).2,cg,(ay i1).1,(ay i1).2,(ay hi).1,(ay hi).2,trivial⟩,hr⟩
      ·intro _ g;rw[Int.toNat_natCast,hu] at g;cases g
      ·intro g;rw[aX] at g;omega
     |false=>
      simp only[Tb.lim,WW hu] at hr
      refine Eo T b r p a _ _ _ _ _ _ i σ e ?_ ?_ ?_<;>dsimp only[At,Tr.q,RG,EX]
      ·intro _ g;rw[Int.toNat_natCast,hu] at g;cases g
      ·intro _ _
       rw[dF hi (by omega)]
       exact⟨⟨(ay hi).1,(ay hi).2,trivial⟩,hr⟩
      ·intro g;rw[aX] at g;omega
    ·refine Eo T b r p a _ _ _ _ _ _ T.us.length _ _ ?_ ?_ ?_<;>dsimp only[At,Tr.q,RG,EX]
     ·intro g;rw[aQ] at g;omega
     ·intro g;rw[aQ] at g;omega
     ·intro _;exact⟨trivial,rfl,rfl⟩
   refine zO T b r p a (T.lim b r p a T.us.length).x1 (T.lim b r p a T.us.length).x2 (T.lim b r p a T.us.length).x3 (T.lim b r p a T.us.length).x4 (T.lim b r p a T.us.length).x5 (T.lim b r p a T.us.length).x6 T.us.length _ ?_ ?_ ?_<;>dsimp only[At,Tr.q,DZ]
   ·intro g;rw[aP,←er] at g;exact absurd c1 g
   ·intro _ g;rw[aP] at g;exact absurd c2 g
   ·intro _ _
    refine⟨⟨rfl,(uh _ _ _ _).symm,rfl,rfl,rfl,rfl,rfl,ak run,w,ho,trivial⟩,rfl⟩
  ·have eV:dm T b r p a=t0:=by unfold dm;rw[if_neg (fun n=>c2 n.2)]
   have eE:O3 T b r p=iV b r p:=by unfold O3;rw[if_pos c1]
   rw[eV,eE]
   refine bH (bM.bF (.cons aaS (.refl _))) ?_
   refine zO T b r p a T.x1 T.x2 T.x3 T.x4 T.x5 T.x6 0 _ ?_ ?_ ?_<;>dsimp only[At,Tr.q,DZ]
   ·intro g;rw[aP,←er] at g;exact absurd c1 g
   ·intro _ _;exact⟨⟨ho,trivial⟩,rfl⟩
   ·intro _ g;rw[aY] at g;exact absurd g c2
 ·have eV:dm T b r p a=t0:=by unfold dm;rw[if_neg (fun n=>c1 n.1)]
  have eE:O3 T b r p=BG T:=by unfold O3;rw[if_neg c1];exact er
  rw[eV,eE]
  refine bH (bM.bF (.cons aaS (.refl _))) ?_
  refine zO T b r p a T.x1 T.x2 T.x3 T.x4 T.x5 T.x6 0 _ ?_ ?_ ?_<;>dsimp only[At,Tr.q,DZ]
  ·intro _;exact⟨⟨ho,ho,trivial⟩,rfl⟩
  ·intro g;rw[aY,←er] at g;exact absurd g c1
  ·intro g;rw[aY,←er] at g;exact absurd g c1
theorem ah4 (T:Tb) (b r p a:Int) (h:ZT T a):CallsD Try.prog 21 [T.d, .agg [i64 b,i64 r,i64 p],u64 a] (.bF [(dm T b r p a).o,i64 (O3 T b r p)]):=by
 have ho:=h.1
 by_cases c1:nO T=0
 ·by_cases c2:iV b r p=0
  ·obtain⟨L,F,v⟩:=KR ho c1
   have lens:=EO ho v
   have ul:=pz v
   have w:=BN ho
   have eV:dm T b r p a=T.lim b r p a T.us.length:=by unfold dm;rw[if_pos ⟨c1,c2⟩]
   have eE:O3 T b r p=0:=by unfold O3;rw[if_pos c1];exact c2
   have u200:=ho.2.2.2.2.1
   rw[eV,eE]
   have run:Runs Try.prog (CallsD Try.prog) (.rounds (af Try.prog 21 0)) (Ua T b r p a T.x1 T.x2 T.x3 T.x4 T.x5 T.x6 0).abs (.exit 0)
     (Ua T b r p a (T.lim b r p a T.us.length).x1 (T.lim b r p a T.us.length).x2 (T.lim b r p a T.us.length).x3 (T.lim b r p a T.us.length).x4 (T.lim b r p a T.us.length).x5 (T.lim b r p a T.us.length).x6 T.us.length).abs:=by
    refine dS (fun i=>Ua T b r p a (T.lim b r p a i).x1 (T.lim b r p a i).x2 (T.lim b r p a i).x3 (T.lim b r p a i).x4 (T.lim b r p a i).x5 (T.lim b r p a i).x6 (i:Int)) T.us.length (fun _=>True) (fun i hi _ σ e hr=>?_) ?_ T.us.length 0 (by omega) (fun _ _ _=>trivial)
    ·have i1:i<T.x1.length:=by omega
     cases hu:T.us.getD i false with
     |true=>
      have cg:=acC h v c2 hi hu
      simp only[Tb.lim,Tj hu] at hr
      refine FH T b r p a _ _ _ _ _ _ i σ e ?_ ?_ ?_<;>dsimp only[At,Tr.q,RG,DC]
      ·intro _ _
       rw[dF hi (by omega)]
       simp only[Int.toNat_natCast,aH.len,Tb.lim,uh,fun us f xs=>Sl us f xs i i (Nat.le_refl i)]
       exact⟨⟨by omega,by omega,by omega,by omega,by omega,by omega,by omega,(ay i1).1,(ay i1).2,cg,by omega,(ay i1).1,(ay i1).2,hi,(ay hi).1,(ay hi).2,trivial⟩,hr⟩
      ·intro _ g;rw[Int.toNat_natCast,hu] at g;cases g
      ·intro g;rw[aX] at g;omega
     |false=>
      simp only[Tb.lim,WW hu] at hr
      refine FH T b r p a _ _ _ _ _ _ i σ e ?_ ?_ ?_<;>dsimp only[At,Tr.q,RG,DC]
      ·intro _ g;rw[Int.toNat_natCast,hu] at g;cases g
      ·intro _ _
       rw[dF hi (by omega)]
       exact⟨⟨by rw[Int.toNat_natCast];exact hi,(ay hi).1,(ay hi).2,trivial⟩,hr⟩
      ·intro g;rw[aX] at g;omega
    ·refine FH T b r p a _ _ _ _ _ _ T.us.length _ _ ?_ ?_ ?_<;>dsimp only[At,Tr.q,RG,DC]
     ·intro g;rw[aQ] at g;omega
     ·intro g;rw[aQ] at g;omega
     ·intro _;exact⟨trivial,rfl,rfl⟩
   refine yL T b r p a (T.lim b r p a T.us.length).x1 (T.lim b r p a T.us.length).x2 (T.lim b r p a T.us.length).x3 (T.lim b r p a T.us.length).x4 (T.lim b r p a T.us.length).x5 (T.lim b r p a T.us.length).x6 T.us.length _ ?_ ?_ ?_<;>dsimp only[At,Tr.q,EN]
   ·intro g;rw[aP] at g;exact absurd c1 g
   ·intro _ g;rw[aP] at g;exact absurd c2 g
   ·intro _ _
    refine⟨⟨rfl,(uh _ _ _ _).symm,rfl,rfl,rfl,rfl,rfl,ak run,w.2.2.2.2.2.2,w.2.2.2.2.2.1,w.2.2.2.2.1,w.2.2.2.1,w.2.2.1,w.2.1,w.1,ho,trivial⟩,rfl⟩
  ·have eV:dm T b r p a=t0:=by unfold dm;rw[if_neg (fun n=>c2 n.2)]
   have eE:O3 T b r p=iV b r p:=by unfold O3;rw[if_pos c1]
   rw[eV,eE]
   refine bH (bM.bF (.cons aaS (.refl _))) ?_
   refine yL T b r p a T.x1 T.x2 T.x3 T.x4 T.x5 T.x6 0 _ ?_ ?_ ?_<;>dsimp only[At,Tr.q,EN]
   ·intro g;rw[aP] at g;exact absurd c1 g
   ·intro _ _;exact⟨⟨ho,trivial⟩,rfl⟩
   ·intro _ g;rw[aY] at g;exact absurd g c2
 ·have eV:dm T b r p a=t0:=by unfold dm;rw[if_neg (fun n=>c1 n.1)]
  have eE:O3 T b r p=nO T:=by unfold O3;rw[if_neg c1]
  rw[eV,eE]
  refine bH (bM.bF (.cons aaS (.refl _))) ?_
  refine yL T b r p a T.x1 T.x2 T.x3 T.x4 T.x5 T.x6 0 _ ?_ ?_ ?_<;>dsimp only[At,Tr.q,EN]
  ·intro _;exact⟨⟨ho,trivial⟩,rfl⟩
  ·intro g;rw[aY] at g;exact absurd g c1
  ·intro g;rw[aY] at g;exact absurd g c1
end TableS
end

section
namespace TableS
open Go Go.Dam Go.Proofs
set_option maxRecDepth 1000000
def WU (f:Tb→Int→Int→Int→Int→D×List Prop):List D→Option (D×List Prop)
 |[d, .agg [.v (.int .i64 b), .v (.int .i64 r), .v (.int .i64 p)], .v (.int .u64 a)]=>match QG d with
  |some T=>some (f T b r p a)
  |none=>none
 |_=>none
theorem MG {f:Tb→Int→Int→Int→Int→D×List Prop} {g:FuncId} (hf:∀ T b r p a,aI (f T b r p a).2→CallsD Try.prog g [T.d, .agg [i64 b,i64 r,i64 p],u64 a] (f T b r p a).1) (args res l) (h:WU f args=some (res,l)) (hl:aI l):CallsD Try.prog g args res:=by
 unfold WU at h
 split at h
 next d b r p a=>
  split at h
  next T ht=>
   simp only[Option.some.injEq] at h
   have e:=Dc ht
   subst e
   have:=hf T b r p a (by rw[h];exact hl)
   rw[h] at this;exact this
  ·cases h
 ·cases h
noncomputable def afa (T:Tb) (b r p a:Int):D×List Prop:=(.bF [(dm T b r p a).o,i64 (O3 T b r p)],[ZT T a])
noncomputable def RY:List D→Option (D×List Prop):=WU afa
theorem XA (args res l) (h:RY args=some (res,l)) (hl:aI l):CallsD Try.prog 21 args res:=MG (f:=afa) (fun T b r p a h=>ah4 T b r p a h.1) args res l h hl
theorem Yz (args res l) (h:RY args=some (res,l)) (hl:aI l):CallsD Try.prog 25 args res:=MG (f:=afa) (fun T b r p a h=>aiH T b r p a h.1) args res l h hl
noncomputable def X29:aB:=aJ 21 (.call RY) (aJ 25 (.call RY) X28)
theorem akd:bG Try.prog X29:=ax XA (ax Yz Xv)
end TableS
end

section
namespace TableS
open Go Go.Dam Go.Proofs
set_option maxRecDepth 1000000
def Tb.fs (T:Tb):List D:=[i64 T.n,ru T.ks,kr T.x1 T.x2 T.x3 T.x4 T.x5 T.x6,ri T.nx,rb T.us,i64 T.fr,cc T.kx T.px T.ux,ri T.ps,ri T.no,i64 T.h,i64 T.t]
def tbs:List D→Option (Tb×List D)
 | .v (.int .i64 v1):: .rc [.ints .u32 v2]:: .rc [.ints .i64 v3, .ints .i64 v4, .ints .i64 v5, .ints .i64 v6, .ints .i64 v7, .ints .u64 v8]:: .rc [.ints .i64 v9]:: .rc [.bools v10]:: .v (.int .i64 v11):: .rc [.ints .u32 v12, .ints .i64 v13, .bools v14]:: .rc [.ints .i64 v15]:: .rc [.ints .i64 v16]:: .v (.int .i64 v17):: .v (.int .i64 v18)::r=>
  some (⟨v1,v2,v3,v4,v5,v6,v7,v8,v9,v10,v11,v12,v13,v14,v15,v16,v17,v18⟩,r)
 |_=>none
theorem Zq {l r:List D} {T:Tb} (h:tbs l=some (T,r)):l=T.fs ++ r:=by
 unfold tbs at h
 split at h
 ·simp only[Option.some.injEq,Prod.mk.injEq] at h
  obtain⟨rfl,rfl⟩:=h
  rfl
 ·cases h
structure Ph where
 te:Int
 b0:Int
 r0:Int
 p0:Int
 b1:Int
 r1:Int
 p1:Int
 b2:Int
 r2:Int
 p2:Int
 ob:Int
 orr:Int
 op:Int
 ov:Int
 oq:Int
 oa:Int
def phs:List D→Option (Ph×List D)
 | .v (.int .u32 v1):: .v (.int .i64 v2):: .v (.int .i64 v3):: .v (.int .i64 v4):: .v (.int .i64 v5):: .v (.int .i64 v6):: .v (.int .i64 v7):: .v (.int .i64 v8):: .v (.int .i64 v9):: .v (.int .i64 v10):: .v (.int .i64 v11):: .v (.int .i64 v12):: .v (.int .i64 v13):: .v (.int .i64 v14):: .v (.int .i64 v15):: .v (.int .u64 v16)::r=>
  some (⟨v1,v2,v3,v4,v5,v6,v7,v8,v9,v10,v11,v12,v13,v14,v15,v16⟩,r)
 |_=>none
abbrev Ph.q (p:Ph) (U E:Tb) (rv:List Int) (ta tl tc:Int):Pt:=⟨p.te,p.b0,p.r0,p.p0,p.b1,p.r1,p.p1,p.b2,p.r2,p.p2,p.ob,p.orr,p.op,p.ov,p.oq,p.oa,U,E,rv,ta,tl,tc⟩
def Ph.fs (p:Ph):List D:=[u32 p.te,i64 p.b0,i64 p.r0,i64 p.p0,i64 p.b1,i64 p.r1,i64 p.p1,i64 p.b2,i64 p.r2,i64 p.p2,i64 p.ob,i64 p.orr,i64 p.op,i64 p.ov,i64 p.oq,u64 p.oa]
theorem adE {l r:List D} {p:Ph} (h:phs l=some (p,r)):l=p.fs ++ r:=by
 unfold phs at h
 split at h
 ·simp only[Option.some.injEq,Prod.mk.injEq] at h
  obtain⟨rfl,rfl⟩:=h
  rfl
 ·cases h
def Pm:D→Option Pt
 | .agg l=>match phs l with
  |some (p,r)=>match tbs r with
   |some (U,r2)=>match tbs r2 with
    |some (E,[.rc [.ints .u32 rv], .v (.int .u64 ta), .v (.int .u64 tl), .v (.int .u64 tc)])=>some (p.q U E rv ta tl tc)
    |_=>none
   |none=>none
  |none=>none
 |_=>none
theorem DU {d:D} {Q:Pt} (h:Pm d=some Q):d=Q.d:=by
 unfold Pm at h
 split at h
 next l=>
  split at h
  next p r h1=>
   split at h
   next U r2 h2=>
    split at h
    next E rv ta tl tc h3=>
     simp only[Option.some.injEq] at h;subst h
     rw[adE h1,Zq h2,Zq h3];rfl
    ·cases h
   ·cases h
  ·cases h
 ·cases h
def Rl (f:Pt→D×List Prop):List D→Option (D×List Prop)
 |[d]=>match Pm d with
  |some Q=>some (f Q)
  |none=>none
 |_=>none
theorem oU {f:Pt→D×List Prop} {g:FuncId} (hf:∀ Q,aI (f Q).2→CallsD Try.prog g [Q.d] (f Q).1) (args res l) (h:Rl f args=some (res,l)) (hl:aI l):CallsD Try.prog g args res:=by
 unfold Rl at h
 split at h
 next d=>
  split at h
  next Q ht=>
   simp only[Option.some.injEq] at h
   have e:=DU ht
   subst e
   have:=hf Q (by rw[h];exact hl)
   rw[h] at this;exact this
  ·cases h
 ·cases h
def Ov (f:Pt→Int→D×List Prop):List D→Option (D×List Prop)
 |[d, .v (.int .u32 k)]=>match Pm d with
  |some Q=>some (f Q k)
  |none=>none
 |_=>none
theorem rO {f:Pt→Int→D×List Prop} {g:FuncId} (hf:∀ Q k,aI (f Q k).2→CallsD Try.prog g [Q.d,u32 k] (f Q k).1) (args res l) (h:Ov f args=some (res,l)) (hl:aI l):CallsD Try.prog g args res:=by
 unfold Ov at h
 split at h
 next d k=>
  split at h
  next Q ht=>
   simp only[Option.some.injEq] at h
   have e:=DU ht
   subst e
   have:=hf Q k (by rw[h];exact hl)
   rw[h] at this;exact this
  ·cases h
 ·cases h
noncomputable def agk (Q:Pt):D×List Prop:=(i64 (lG Q),[uJ Q])
noncomputable def abY:List D→Option (D×List Prop):=Rl agk
theorem abx (args res l) (h:abY args=some (res,l)) (hl:aI l):CallsD Try.prog 17 args res:=oU (f:=agk) (fun Q h=>ae9 Q h.1) args res l h hl
theorem abk (args res l) (h:abY args=some (res,l)) (hl:aI l):CallsD Try.prog 22 args res:=oU (f:=agk) (fun Q h=>aek Q h.1) args res l h hl
def isf (Q:Pt) (u:Int):D×List Prop:=(bo (isB Q.rv u),[Q.rv.length≤200])
def isC:List D→Option (D×List Prop):=Ov isf
theorem adB (args res l) (h:isC args=some (res,l)) (hl:aI l):CallsD Try.prog 29 args res:=rO (f:=isf) (fun Q u h=>agL Q u h.1) args res l h hl
noncomputable def ZQ:aB:=aJ 17 (.call abY) (aJ 22 (.call abY) (aJ 29 (.call isC) (aJ 18 (.call vaC) (aJ 23 (.call vaC) (aJ 26 (.call bsC) (aJ 53 (.call xiC) X29))))))
theorem KE:bG Try.prog ZQ:=ax abx (ax abk (ax adB (ax XE (ax Y1 (ax Xa (ax Yi akd))))))
end TableS
end

section
namespace TableS
open Go Go.Dam Go.Proofs
set_option maxRecDepth 1000000
noncomputable def TP (Q:Pt) (u:Int):Tr D:= .s (uJ Q) (.d (ai .neq (lG Q) 0) (fun e0=> .lf (D.bF [bo false,i64 (lG Q)])) (fun e0=> .s (Q.rv.length≤200) (.lf (D.bF [D.v (Value.bool (ai .geq (xiN Q.rv u) 0)),i64 0]))))
theorem aiI (Q:Pt) (u:Int):Leaves (fun l=>cu Try.prog (ZQ) 100000 l 12 [Q.d,u32 u]) (TP Q u) [] []:=by refine⟨fun _=>?_,fun _=>?_⟩<;>(show _=_;kernel_rfl)
theorem VF (Q:Pt) (u:Int) (res:D) (h0:At (fun r=>res=r) (TP Q u) [true] True) (h1:At (fun r=>res=r) (TP Q u) [false] True):CallsD Try.prog 12 [Q.d,u32 u] res:=au (KE) (aiI Q u) ⟨fun e0=>h0 e0,fun e0=>h1 e0⟩
noncomputable def Tf (Q:Pt) (u:Int):Tr D:= .s (uJ Q) (.d (ai .neq (lG Q) 0) (fun e0=> .s (uJ Q) (.lf (D.bF [bo false,i64 (lG Q)]))) (fun e0=> .s (Q.rv.length≤200) (.lf (D.bF [bo (isB Q.rv u),i64 0]))))
theorem aiQ (Q:Pt) (u:Int):Leaves (fun l=>cu Try.prog (ZQ) 100000 l 13 [Q.d,u32 u]) (Tf Q u) [] []:=by refine⟨fun _=>?_,fun _=>?_⟩<;>(show _=_;kernel_rfl)
theorem VY (Q:Pt) (u:Int) (res:D) (h0:At (fun r=>res=r) (Tf Q u) [true] True) (h1:At (fun r=>res=r) (Tf Q u) [false] True):CallsD Try.prog 13 [Q.d,u32 u] res:=au (KE) (aiQ Q u) ⟨fun e0=>h0 e0,fun e0=>h1 e0⟩
noncomputable def CY (Q:Pt):Tr D:= .d (Q.U.great) (fun e0=> .p (.c 5) (.lf (bo true))) (fun e0=> .p (.c 1) (.d (Q.E.great) (fun e1=> .p (.c 2) (.lf (bo true))) (fun e1=> .p (.c 2) (.lf (D.v (Value.bool (ai .gtr (↑(rowLen [Col.ints .u32 Q.rv])) 100)))))))
theorem aeD (Q:Pt):Leaves (fun l=>cu Try.prog (ZQ) 100000 l 4 [Q.d]) (CY Q) [] []:=by refine⟨fun _=>?_,fun _=>⟨fun _=>?_,fun _=>?_⟩⟩<;>(show _=_;kernel_rfl)
theorem Qr (Q:Pt) (res:D) (h0:At (fun r=>res=r) (CY Q) [true] True) (h1:At (fun r=>res=r) (CY Q) [false,true] True) (h2:At (fun r=>res=r) (CY Q) [false,false] True):CallsD Try.prog 4 [Q.d] res:=au (KE) (aeD Q) ⟨fun e0=>h0 e0,fun e0=>⟨fun e1=>h1 e0 e1,fun e1=>h2 e0 e1⟩⟩
noncomputable def WN (T:Tb):Tr D:= .s (T.ks.length≤200) (.s (kcS T.x1 T.x2 T.x3 T.x4 T.x5 T.x6) (.s (ccS T.kx T.px T.ux) (.s (T.nx.length≤200) (.s (T.us.length≤200) (.s (T.ps.length≤200) (.s (T.no.length≤200) (.q (ah [.ints .i64 T.no]) (.q (ah [.ints .i64 T.ps]) (.q (ah [.ints .u32 T.kx, .ints .i64 T.px, .bools T.ux]) (.q (ah [.bools T.us]) (.q (ah [.ints .i64 T.nx]) (.q (ah [.ints .i64 T.x1, .ints .i64 T.x2, .ints .i64 T.x3, .ints .i64 T.x4, .ints .i64 T.x5, .ints .u64 T.x6]) (.q (ah [.ints .u32 T.ks]) (.lf (D.agg [i64 T.n,D.oc [.ints .u32 T.ks],D.oc [.ints .i64 T.x1, .ints .i64 T.x2, .ints .i64 T.x3, .ints .i64 T.x4, .ints .i64 T.x5, .ints .u64 T.x6],D.oc [.ints .i64 T.nx],D.oc [.bools T.us],i64 T.fr,D.oc [.ints .u32 T.kx, .ints .i64 T.px, .bools T.ux],D.oc [.ints .i64 T.ps],D.oc [.ints .i64 T.no],i64 T.h,i64 T.t])))))))))))))))
theorem aen (T:Tb):Leaves (fun l=>cu Try.prog (ZQ) 100000 l 50 [T.d]) (WN T) [] []:=by show _=_;kernel_rfl
theorem QB (T:Tb) (res:D) (h0:At (fun r=>res=r) (WN T) [] True):CallsD Try.prog 50 [T.d] res:=au (KE) (aen T) h0
theorem Zw (xs:List Int) (u:Int):ai .geq (xiN xs u) 0=decide (u∈xs):=by
 have h:xiN xs u<0↔∀ j,0≤j→j<0+xs.length→(u ==xs.getD j 0)=false:=dM _ _
 by_cases m:u∈xs
 ·rw[decide_eq_true m,iQ]
  obtain⟨j,hj,e⟩:=List.getElem_of_mem m
  by_cases q:xiN xs u<0
  ·have:=h.1 q j (by omega) (by omega)
   rw[List.getD_eq_getElem?_getD,List.getElem?_eq_getElem hj] at this
   simp[e] at this
  ·omega
 ·rw[decide_eq_false m,iP]
  have:xiN xs u<0:=h.2 fun j _ hj=>by
   have hj':j<xs.length:=by omega
   rw[beq_eq_false_iff_ne]
   intro e
   rw[List.getD_eq_getElem?_getD,List.getElem?_eq_getElem hj'] at e
   exact m (by rw[e];exact List.getElem_mem hj')
  omega
theorem Qp (xs:List Int) (u:Int):isB xs u=decide (u∈xs):=by
 rw[←Zw]
 unfold isB xiN
 have:(fun i=>xs.getD i 0 ==u)=fun i=>u ==xs.getD i 0:=by funext i;rw[Bool.eq_iff_iff];simp only[beq_iff_eq];exact eq_comm
 rw[this]
 by_cases q:gJ (fun i=>u ==xs.getD i 0) xs.length 0<0
 ·rw[decide_eq_true q];symm;rw[Bool.not_true,iP];omega
 ·rw[decide_eq_false q];symm;rw[Bool.not_false,iQ];omega
noncomputable def rvB (Q:Pt) (u:Int):Bool:=decide (lG Q=0) && decide (u∈Q.rv)
theorem aeT (Q:Pt) (u:Int) (h:uJ Q):CallsD Try.prog 12 [Q.d,u32 u] (.bF [bo (rvB Q u),i64 (lG Q)]):=by
 unfold rvB
 refine VF Q u _ ?_ ?_<;>dsimp only[At,Tr.q,TP]
 ·intro g;rw[aP] at g;exact⟨⟨h,trivial⟩,by rw[decide_eq_false g];rfl⟩
 ·intro g;rw[aY] at g;exact⟨⟨h.2.2.2,h,trivial⟩,by rw[decide_eq_true g,Zw,g];rfl⟩
theorem ael (Q:Pt) (u:Int) (h:uJ Q):CallsD Try.prog 13 [Q.d,u32 u] (.bF [bo (rvB Q u),i64 (lG Q)]):=by
 unfold rvB
 refine VY Q u _ ?_ ?_<;>dsimp only[At,Tr.q,Tf]
 ·intro g;rw[aP] at g;exact⟨⟨h,h,trivial⟩,by rw[decide_eq_false g];rfl⟩
 ·intro g;rw[aY] at g;exact⟨⟨h.2.2.2,h,trivial⟩,by rw[decide_eq_true g,Qp,g];rfl⟩
end TableS
end

section
namespace TableS
open Go Go.Dam Go.Proofs
set_option maxRecDepth 1000000
noncomputable def Za (Q:Pt):Tr D:= .s (Be Q.U) (.s (Be Q.E) (.s ((aH.ints .u32 Q.rv).len=ah [.ints .u32 Q.rv]) (.s (ah [.ints .u32 Q.rv]*4≤17592186044416) (.q (ah [.ints .u32 Q.rv]) (.q (ah [.ints .i64 Q.E.no]) (.q (ah [.ints .i64 Q.E.ps]) (.q (ah [.ints .u32 Q.E.kx, .ints .i64 Q.E.px, .bools Q.E.ux]) (.q (ah [.bools Q.E.us]) (.q (ah [.ints .i64 Q.E.nx]) (.q (ah [.ints .i64 Q.E.x1, .ints .i64 Q.E.x2, .ints .i64 Q.E.x3, .ints .i64 Q.E.x4, .ints .i64 Q.E.x5, .ints .u64 Q.E.x6]) (.q (ah [.ints .u32 Q.E.ks]) (.q (ah [.ints .i64 Q.U.no]) (.q (ah [.ints .i64 Q.U.ps]) (.q (ah [.ints .u32 Q.U.kx, .ints .i64 Q.U.px, .bools Q.U.ux]) (.q (ah [.bools Q.U.us]) (.q (ah [.ints .i64 Q.U.nx]) (.q (ah [.ints .i64 Q.U.x1, .ints .i64 Q.U.x2, .ints .i64 Q.U.x3, .ints .i64 Q.U.x4, .ints .i64 Q.U.x5, .ints .u64 Q.U.x6]) (.q (ah [.ints .u32 Q.U.ks]) (.lf (D.agg [u32 Q.te,i64 Q.b0,i64 Q.r0,i64 Q.p0,i64 Q.b1,i64 Q.r1,i64 Q.p1,i64 Q.b2,i64 Q.r2,i64 Q.p2,i64 Q.ob,i64 Q.orr,i64 Q.op,i64 Q.ov,i64 Q.oq,u64 Q.oa,i64 Q.U.n,D.oc [.ints .u32 Q.U.ks],D.oc [.ints .i64 Q.U.x1, .ints .i64 Q.U.x2, .ints .i64 Q.U.x3, .ints .i64 Q.U.x4, .ints .i64 Q.U.x5, .ints .u64 Q.U.x6],D.oc [.ints .i64 Q.U.nx],D.oc [.bools Q.U.us],i64 Q.U.fr,D.oc [.ints .u32 Q.U.kx, .ints .i64 Q.U.px, .bools Q.U.ux],D.oc [.ints .i64 Q.U.ps],D.oc [.ints .i64 Q.U.no],i64 Q.U.h,i64 Q.U.t,i64 Q.E.n,D.oc [.ints .u32 Q.E.ks],D.oc [.ints .i64 Q.E.x1, .ints .i64 Q.E.x2, .ints .i64 Q.E.x3, .ints .i64 Q.E.x4, .ints .i64 Q.E.x5, .ints .u64 Q.E.x6],D.oc [.ints .i64 Q.E.nx],D.oc [.bools Q.E.us],i64 Q.E.fr,D.oc [.ints .u32 Q.E.kx, .ints .i64 Q.E.px, .bools Q.E.ux],D.oc [.ints .i64 Q.E.ps],D.oc [.ints .i64 Q.E.no],i64 Q.E.h,i64 Q.E.t,D.oc [.ints .u32 Q.rv],u64 Q.ta,u64 Q.tl,u64 Q.tc]))))))))))))))))))))
theorem aer (Q:Pt):Leaves (fun l=>cu Try.prog (ZQ) 100000 l 5 [Q.d]) (Za Q) [] []:=by show _=_;kernel_rfl
theorem QC (Q:Pt) (res:D) (h0:At (fun r=>res=r) (Za Q) [] True):CallsD Try.prog 5 [Q.d] res:=au (KE) (aer Q) h0
noncomputable def Y7 (Q:Pt):Tr D:= .s (uJ Q) (.d (ai .neq (lG Q) 0) (fun e0=> .s (uJ Q) (.lf (D.bF [D.agg [u32 0,i64 0,i64 0,i64 0,i64 0,i64 0,i64 0,i64 0,i64 0,i64 0,i64 0,i64 0,i64 0,i64 0,i64 0,u64 0,i64 0,D.v (Value.slice none 0 0),D.v (Value.slice none 0 0),D.v (Value.slice none 0 0),D.v (Value.slice none 0 0),i64 0,D.v (Value.slice none 0 0),D.v (Value.slice none 0 0),D.v (Value.slice none 0 0),i64 0,i64 0,i64 0,D.v (Value.slice none 0 0),D.v (Value.slice none 0 0),D.v (Value.slice none 0 0),D.v (Value.slice none 0 0),i64 0,D.v (Value.slice none 0 0),D.v (Value.slice none 0 0),D.v (Value.slice none 0 0),i64 0,i64 0,D.v (Value.slice none 0 0),u64 0,u64 0,u64 0],i64 (lG Q)]))) (fun e0=> .s (Be Q.U) (.s (Be Q.E) (.s ((aH.ints .u32 Q.rv).len=ah [.ints .u32 Q.rv]) (.s (ah [.ints .u32 Q.rv]*4≤17592186044416) (.q (ah [.ints .i64 Q.E.no]) (.q (ah [.ints .i64 Q.E.ps]) (.q (ah [.ints .u32 Q.E.kx, .ints .i64 Q.E.px, .bools Q.E.ux]) (.q (ah [.bools Q.E.us]) (.q (ah [.ints .i64 Q.E.nx]) (.q (ah [.ints .i64 Q.E.x1, .ints .i64 Q.E.x2, .ints .i64 Q.E.x3, .ints .i64 Q.E.x4, .ints .i64 Q.E.x5, .ints .u64 Q.E.x6]) (.q (ah [.ints .u32 Q.E.ks]) (.q (ah [.ints .i64 Q.U.no]) (.q (ah [.ints .i64 Q.U.ps]) (.q (ah [.ints .u32 Q.U.kx, .ints .i64 Q.U.px, .bools Q.U.ux]) (.q (ah [.bools Q.U.us]) (.q (ah [.ints .i64 Q.U.nx]) (.q (ah [.ints .i64 Q.U.x1, .ints .i64 Q.U.x2, .ints .i64 Q.U.x3, .ints .i64 Q.U.x4, .ints .i64 Q.U.x5, .ints .u64 Q.U.x6]) (.q (ah [.ints .u32 Q.U.ks]) (.lf (D.bF [D.agg [u32 Q.te,i64 Q.b0,i64 Q.r0,i64 Q.p0,i64 Q.b1,i64 Q.r1,i64 Q.p1,i64 Q.b2,i64 Q.r2,i64 Q.p2,i64 Q.ob,i64 Q.orr,i64 Q.op,i64 Q.ov,i64 Q.oq,u64 Q.oa,i64 Q.U.n,D.oc [.ints .u32 Q.U.ks],D.oc [.ints .i64 Q.U.x1, .ints .i64 Q.U.x2, .ints .i64 Q.U.x3, .ints .i64 Q.U.x4, .ints .i64 Q.U.x5, .ints .u64 Q.U.x6],D.oc [.ints .i64 Q.U.nx],D.oc [.bools Q.U.us],i64 Q.U.fr,D.oc [.ints .u32 Q.U.kx, .ints .i64 Q.U.px, .bools Q.U.ux],D.oc [.ints .i64 Q.U.ps],D.oc [.ints .i64 Q.U.no],i64 Q.U.h,i64 Q.U.t,i64 Q.E.n,D.oc [.ints .u32 Q.E.ks],D.oc [.ints .i64 Q.E.x1, .ints .i64 Q.E.x2, .ints .i64 Q.E.x3, .ints .i64 Q.E.x4, .ints .i64 Q.E.x5, .ints .u64 Q.E.x6],D.oc [.ints .i64 Q.E.nx],D.oc [.bools Q.E.us],i64 Q.E.fr,D.oc [.ints .u32 Q.E.kx, .ints .i64 Q.E.px, .bools Q.E.ux],D.oc [.ints .i64 Q.E.ps],D.oc [.ints .i64 Q.E.no],i64 Q.E.h,i64 Q.E.t,D.v (Value.slice none 0 0),u64 Q.ta,u64 Q.tl,u64 Q.tc],i64 0])))))))))))))))))))))
theorem ahG (Q:Pt):Leaves (fun l=>cu Try.prog (ZQ) 100000 l 11 [Q.d]) (Y7 Q) [] []:=by refine⟨fun _=>?_,fun _=>?_⟩<;>(show _=_;kernel_rfl)
theorem G6 (Q:Pt) (res:D) (h0:At (fun r=>res=r) (Y7 Q) [true] True) (h1:At (fun r=>res=r) (Y7 Q) [false] True):CallsD Try.prog 11 [Q.d] res:=au (KE) (ahG Q) ⟨fun e0=>h0 e0,fun e0=>h1 e0⟩
def Tb.fo (T:Tb):List D:=[i64 T.n,ou T.ks, .oc [.ints .i64 T.x1, .ints .i64 T.x2, .ints .i64 T.x3, .ints .i64 T.x4, .ints .i64 T.x5, .ints .u64 T.x6],oi T.nx,ob T.us,i64 T.fr, .oc [.ints .u32 T.kx, .ints .i64 T.px, .bools T.ux],oi T.ps,oi T.no,i64 T.h,i64 T.t]
def Pt.o (Q:Pt):D:= .agg ([u32 Q.te,i64 Q.b0,i64 Q.r0,i64 Q.p0,i64 Q.b1,i64 Q.r1,i64 Q.p1,i64 Q.b2,i64 Q.r2,i64 Q.p2,i64 Q.ob,i64 Q.orr,i64 Q.op,i64 Q.ov,i64 Q.oq,u64 Q.oa] ++ (Q.U.fo ++ (Q.E.fo ++ [ou Q.rv,u64 Q.ta,u64 Q.tl,u64 Q.tc])))
def q0:Pt:=⟨0,0,0,0,0,0,0,0,0,0,0,0,0,0,0,0,t0,t0,[],0,0,0⟩
def Gh (Q:Pt):Prop:=Be Q.U∧Be Q.E∧Q.rv.length≤200
theorem pG {Q:Pt} (h:uJ Q):Gh Q:=⟨BN h.2.1,BN h.2.2.1,h.2.2.2⟩
theorem ace (Q:Pt) (h:Gh Q):CallsD Try.prog 5 [Q.d] Q.o:=by
 obtain⟨h1,h2,h3⟩:=h
 exact QC Q _ ⟨⟨by simp only[ah,aH.len];omega,rfl,h2,h1,trivial⟩,rfl⟩
def Pt.great (Q:Pt):Bool:=Q.U.great || (Q.E.great || decide (100<Q.rv.length))
theorem abC (Q:Pt):CallsD Try.prog 4 [Q.d] (bo Q.great):=by
 unfold Pt.great
 refine Qr Q _ ?_ ?_ ?_<;>dsimp only[At,Tr.q,CY]
 ·intro g;exact⟨trivial,by rw[g];rfl⟩
 ·intro g g2;exact⟨trivial,by rw[g,g2];rfl⟩
 ·intro g g2
  refine⟨trivial,?_⟩
  rw[g,g2,Bool.false_or,Bool.false_or]
  have:ai .gtr (Q.rv.length:Int) 100=decide (100<Q.rv.length):=by
   by_cases c:100<Q.rv.length
   ·rw[decide_eq_true c,dV];omega
   ·rw[decide_eq_false c,gI];omega
  rw[←this];rfl
noncomputable def LH (Q:Pt):Pt:=if lG Q=0 then { Q with rv:=[] } else q0
def ZX:D:=D.v (Value.slice none 0 0)
def z11:List D:=[i64 0,ZX,ZX,ZX,ZX,i64 0,ZX,ZX,ZX,i64 0,i64 0]
def Pt.oN (Q:Pt):D:= .agg ([u32 Q.te,i64 Q.b0,i64 Q.r0,i64 Q.p0,i64 Q.b1,i64 Q.r1,i64 Q.p1,i64 Q.b2,i64 Q.r2,i64 Q.p2,i64 Q.ob,i64 Q.orr,i64 Q.op,i64 Q.ov,i64 Q.oq,u64 Q.oa] ++ (Q.U.fo ++ (Q.E.fo ++ [ZX,u64 Q.ta,u64 Q.tl,u64 Q.tc])))
def q0N:D:= .agg ([u32 0,i64 0,i64 0,i64 0,i64 0,i64 0,i64 0,i64 0,i64 0,i64 0,i64 0,i64 0,i64 0,i64 0,i64 0,u64 0] ++ (z11 ++ (z11 ++ [ZX,u64 0,u64 0,u64 0])))
theorem Gs:kV q0N q0.o:=bM.agg (by
 repeat(first | refine .cons (.nil rfl) ?_ | refine .cons (.refl _) ?_)
 exact .refl _)
theorem acL (Q:Pt):kV Q.oN ({ Q with rv:=[] }:Pt).o:=bM.agg (by
 repeat(first | refine .cons (.nil rfl) ?_ | refine .cons (.refl _) ?_)
 exact .refl _)
theorem adq (Q:Pt) (h:uJ Q):CallsD Try.prog 11 [Q.d] (.bF [(LH Q).o,i64 (lG Q)]):=by
 obtain⟨h1,h2,h3⟩:=pG h
 by_cases c:lG Q=0
 ·have e:LH Q={ Q with rv:=[] }:=by unfold LH;rw[if_pos c]
  rw[e,c]
  refine bH (bM.bF (.cons (acL Q) (.refl _))) (G6 Q _ ?_ ?_)
  ·intro g;rw[aP] at g;exact absurd c g
  ·intro _;exact⟨⟨by simp only[ah,aH.len];omega,rfl,h2,h1,h,trivial⟩,rfl⟩
 ·have e:LH Q=q0:=by unfold LH;rw[if_neg c]
  rw[e]
  refine bH (bM.bF (.cons Gs (.refl _))) (G6 Q _ ?_ ?_)
  ·intro _;exact⟨⟨h,h,trivial⟩,rfl⟩
  ·intro g;rw[aY] at g;exact absurd g c
theorem aaU (T:Tb) (h:Be T):CallsD Try.prog 50 [T.d] T.o:=by
 obtain⟨h1,h2,h3,h4,h5,h6,h7⟩:=h
 refine QB T _ ⟨?_,rfl⟩
 (repeat' (first | assumption | apply And.intro))<;>first | exact trivial | rfl | omega
end TableS
end

section
namespace TableS
open Go Go.Dam Go.Proofs
set_option maxRecDepth 1000000
def ac0 (T:Tb):D×List Prop:=(T.o,[Be T])
def ac6:List D→Option (D×List Prop):=aaE ac0
theorem Yo (args res l) (h:ac6 args=some (res,l)) (hl:aI l):CallsD Try.prog 50 args res:=Tn (f:=ac0) (fun T h=>aaU T h.1) args res l h hl
def ac5 (Q:Pt):D×List Prop:=(Q.o,[Gh Q])
def acS:List D→Option (D×List Prop):=Rl ac5
theorem ZH (args res l) (h:acS args=some (res,l)) (hl:aI l):CallsD Try.prog 5 args res:=oU (f:=ac5) (fun Q h=>ace Q h.1) args res l h hl
def acE (Q:Pt):D×List Prop:=(bo Q.great,[])
def acT:List D→Option (D×List Prop):=Rl acE
theorem XH (args res l) (h:acT args=some (res,l)) (hl:aI l):CallsD Try.prog 4 args res:=oU (f:=acE) (fun Q _=>abC Q) args res l h hl
noncomputable def rvf (Q:Pt) (u:Int):D×List Prop:=(.bF [bo (rvB Q u),i64 (lG Q)],[uJ Q])
noncomputable def rvC:List D→Option (D×List Prop):=Ov rvf
theorem abO (args res l) (h:rvC args=some (res,l)) (hl:aI l):CallsD Try.prog 12 args res:=rO (f:=rvf) (fun Q u h=>aeT Q u h.1) args res l h hl
theorem aap (args res l) (h:rvC args=some (res,l)) (hl:aI l):CallsD Try.prog 13 args res:=rO (f:=rvf) (fun Q u h=>ael Q u h.1) args res l h hl
noncomputable def clf (Q:Pt):D×List Prop:=(.bF [(LH Q).o,i64 (lG Q)],[uJ Q])
noncomputable def clC:List D→Option (D×List Prop):=Rl clf
theorem ach (args res l) (h:clC args=some (res,l)) (hl:aI l):CallsD Try.prog 11 args res:=oU (f:=clf) (fun Q h=>adq Q h.1) args res l h hl
noncomputable def XP4:aB:=aJ 50 (.call ac6) (aJ 5 (.call acS) (aJ 4 (.call acT) (aJ 12 (.call rvC) (aJ 13 (.call rvC) (aJ 11 (.call clC) ZQ)))))
theorem U9:bG Try.prog XP4:=ax Yo (ax ZH (ax XH (ax abO (ax aap (ax ach KE)))))
end TableS
end

section
namespace TableS
open Go Go.Dam Go.Proofs
set_option maxRecDepth 1000000
noncomputable def adb (Q:Pt):Tr D:= .s (Be Q.U) (.s (Be Q.E) (.s (Q.rv.length≤200) (.q (ah [.ints .u32 Q.rv]) (.q (ah [.ints .i64 Q.E.no]) (.q (ah [.ints .i64 Q.E.ps]) (.q (ah [.ints .u32 Q.E.kx, .ints .i64 Q.E.px, .bools Q.E.ux]) (.q (ah [.bools Q.E.us]) (.q (ah [.ints .i64 Q.E.nx]) (.q (ah [.ints .i64 Q.E.x1, .ints .i64 Q.E.x2, .ints .i64 Q.E.x3, .ints .i64 Q.E.x4, .ints .i64 Q.E.x5, .ints .u64 Q.E.x6]) (.q (ah [.ints .u32 Q.E.ks]) (.q (ah [.ints .i64 Q.U.no]) (.q (ah [.ints .i64 Q.U.ps]) (.q (ah [.ints .u32 Q.U.kx, .ints .i64 Q.U.px, .bools Q.U.ux]) (.q (ah [.bools Q.U.us]) (.q (ah [.ints .i64 Q.U.nx]) (.q (ah [.ints .i64 Q.U.x1, .ints .i64 Q.U.x2, .ints .i64 Q.U.x3, .ints .i64 Q.U.x4, .ints .i64 Q.U.x5, .ints .u64 Q.U.x6]) (.q (ah [.ints .u32 Q.U.ks]) (.lf (D.agg [u32 Q.te,i64 Q.b0,i64 Q.r0,i64 Q.p0,i64 Q.b1,i64 Q.r1,i64 Q.p1,i64 Q.b2,i64 Q.r2,i64 Q.p2,i64 Q.ob,i64 Q.orr,i64 Q.op,i64 Q.ov,i64 Q.oq,u64 Q.oa,i64 Q.U.n,D.oc [.ints .u32 Q.U.ks],D.oc [.ints .i64 Q.U.x1, .ints .i64 Q.U.x2, .ints .i64 Q.U.x3, .ints .i64 Q.U.x4, .ints .i64 Q.U.x5, .ints .u64 Q.U.x6],D.oc [.ints .i64 Q.U.nx],D.oc [.bools Q.U.us],i64 Q.U.fr,D.oc [.ints .u32 Q.U.kx, .ints .i64 Q.U.px, .bools Q.U.ux],D.oc [.ints .i64 Q.U.ps],D.oc [.ints .i64 Q.U.no],i64 Q.U.h,i64 Q.U.t,i64 Q.E.n,D.oc [.ints .u32 Q.E.ks],D.oc [.ints .i64 Q.E.x1, .ints .i64 Q.E.x2, .ints .i64 Q.E.x3, .ints .i64 Q.E.x4, .ints .i64 Q.E.x5, .ints .u64 Q.E.x6],D.oc [.ints .i64 Q.E.nx],D.oc [.bools Q.E.us],i64 Q.E.fr,D.oc [.ints .u32 Q.E.kx, .ints .i64 Q.E.px, .bools Q.E.ux],D.oc [.ints .i64 Q.E.ps],D.oc [.ints .i64 Q.E.no],i64 Q.E.h,i64 Q.E.t,D.oc [.ints .u32 Q.rv],u64 Q.ta,u64 Q.tl,u64 Q.tc])))))))))))))))))))
theorem ahi (Q:Pt):Leaves (fun l=>cu Try.prog (XP4) 100000 l 27 [Q.d]) (adb Q) [] []:=by show _=_;kernel_rfl
theorem Vq (Q:Pt) (res:D) (h0:At (fun r=>res=r) (adb Q) [] True):CallsD Try.prog 27 [Q.d] res:=au (U9) (ahi Q) h0
noncomputable def WH (Q:Pt):Tr D:= .s (uJ Q) (.d (ai .neq (lG Q) 0) (fun e0=> .lf (D.bF [D.agg [u32 0,i64 0,i64 0,i64 0,i64 0,i64 0,i64 0,i64 0,i64 0,i64 0,i64 0,i64 0,i64 0,i64 0,i64 0,u64 0,i64 0,D.v (Value.slice none 0 0),D.v (Value.slice none 0 0),D.v (Value.slice none 0 0),D.v (Value.slice none 0 0),i64 0,D.v (Value.slice none 0 0),D.v (Value.slice none 0 0),D.v (Value.slice none 0 0),i64 0,i64 0,i64 0,D.v (Value.slice none 0 0),D.v (Value.slice none 0 0),D.v (Value.slice none 0 0),D.v (Value.slice none 0 0),i64 0,D.v (Value.slice none 0 0),D.v (Value.slice none 0 0),D.v (Value.slice none 0 0),i64 0,i64 0,D.v (Value.slice none 0 0),u64 0,u64 0,u64 0],i64 (lG Q)])) (fun e0=> .s (Be Q.U) (.s (Be Q.E) (.s (Q.rv.length≤200) (.q (ah [.ints .i64 Q.E.no]) (.q (ah [.ints .i64 Q.E.ps]) (.q (ah [.ints .u32 Q.E.kx, .ints .i64 Q.E.px, .bools Q.E.ux]) (.q (ah [.bools Q.E.us]) (.q (ah [.ints .i64 Q.E.nx]) (.q (ah [.ints .i64 Q.E.x1, .ints .i64 Q.E.x2, .ints .i64 Q.E.x3, .ints .i64 Q.E.x4, .ints .i64 Q.E.x5, .ints .u64 Q.E.x6]) (.q (ah [.ints .u32 Q.E.ks]) (.q (ah [.ints .i64 Q.U.no]) (.q (ah [.ints .i64 Q.U.ps]) (.q (ah [.ints .u32 Q.U.kx, .ints .i64 Q.U.px, .bools Q.U.ux]) (.q (ah [.bools Q.U.us]) (.q (ah [.ints .i64 Q.U.nx]) (.q (ah [.ints .i64 Q.U.x1, .ints .i64 Q.U.x2, .ints .i64 Q.U.x3, .ints .i64 Q.U.x4, .ints .i64 Q.U.x5, .ints .u64 Q.U.x6]) (.q (ah [.ints .u32 Q.U.ks]) (.lf (D.bF [D.agg [u32 Q.te,i64 Q.b0,i64 Q.r0,i64 Q.p0,i64 Q.b1,i64 Q.r1,i64 Q.p1,i64 Q.b2,i64 Q.r2,i64 Q.p2,i64 Q.ob,i64 Q.orr,i64 Q.op,i64 Q.ov,i64 Q.oq,u64 Q.oa,i64 Q.U.n,D.oc [.ints .u32 Q.U.ks],D.oc [.ints .i64 Q.U.x1, .ints .i64 Q.U.x2, .ints .i64 Q.U.x3, .ints .i64 Q.U.x4, .ints .i64 Q.U.x5, .ints .u64 Q.U.x6],D.oc [.ints .i64 Q.U.nx],D.oc [.bools Q.U.us],i64 Q.U.fr,D.oc [.ints .u32 Q.U.kx, .ints .i64 Q.U.px, .bools Q.U.ux],D.oc [.ints .i64 Q.U.ps],D.oc [.ints .i64 Q.U.no],i64 Q.U.h,i64 Q.U.t,i64 Q.E.n,D.oc [.ints .u32 Q.E.ks],D.oc [.ints .i64 Q.E.x1, .ints .i64 Q.E.x2, .ints .i64 Q.E.x3, .ints .i64 Q.E.x4, .ints .i64 Q.E.x5, .ints .u64 Q.E.x6],D.oc [.ints .i64 Q.E.nx],D.oc [.bools Q.E.us],i64 Q.E.fr,D.oc [.ints .u32 Q.E.kx, .ints .i64 Q.E.px, .bools Q.E.ux],D.oc [.ints .i64 Q.E.ps],D.oc [.ints .i64 Q.E.no],i64 Q.E.h,i64 Q.E.t,D.v (Value.slice none 0 0),u64 Q.ta,u64 Q.tl,u64 Q.tc],i64 0]))))))))))))))))))))
theorem ahM (Q:Pt):Leaves (fun l=>cu Try.prog (XP4) 100000 l 10 [Q.d]) (WH Q) [] []:=by refine⟨fun _=>?_,fun _=>?_⟩<;>(show _=_;kernel_rfl)
theorem Ig (Q:Pt) (res:D) (h0:At (fun r=>res=r) (WH Q) [true] True) (h1:At (fun r=>res=r) (WH Q) [false] True):CallsD Try.prog 10 [Q.d] res:=au (U9) (ahM Q) ⟨fun e0=>h0 e0,fun e0=>h1 e0⟩
theorem adV (Q:Pt) (h:Gh Q):CallsD Try.prog 27 [Q.d] Q.o:=by
 obtain⟨h1,h2,h3⟩:=h
 refine Vq Q _ ⟨?_,rfl⟩
 (repeat' (first | assumption | apply And.intro))<;>first | exact trivial | rfl | exact h1 | exact h2 | (simp only[ah,aH.len];omega)
theorem aeU (Q:Pt) (h:uJ Q):CallsD Try.prog 10 [Q.d] (.bF [(LH Q).o,i64 (lG Q)]):=by
 obtain⟨h1,h2,h3⟩:=pG h
 by_cases c:lG Q=0
 ·have e:LH Q={ Q with rv:=[] }:=by unfold LH;rw[if_pos c]
  rw[e,c]
  refine bH (bM.bF (.cons (acL Q) (.refl _))) (Ig Q _ ?_ ?_)
  ·intro g;rw[aP] at g;exact absurd c g
  ·intro _
   refine⟨?_,rfl⟩
   (repeat' (first | assumption | apply And.intro))<;>first | exact trivial | rfl | exact h | (simp only[ah,aH.len];omega)
 ·have e:LH Q=q0:=by unfold LH;rw[if_neg c]
  rw[e]
  refine bH (bM.bF (.cons Gs (.refl _))) (Ig Q _ ?_ ?_)
  ·intro _;exact⟨⟨h,trivial⟩,rfl⟩
  ·intro g;rw[aY] at g;exact absurd g c
end TableS
end

section
namespace TableS
open Go Go.Dam Go.Proofs
set_option maxRecDepth 1000000
noncomputable def Fh (Q:Pt) (b0:Int) (r0:Int) (p0:Int) (b1:Int) (r1:Int) (p1:Int) (b2:Int) (r2:Int) (p2:Int) (a:Int):Tr D:= .s (uJ Q) (.d (ai .neq (lG Q) 0) (fun e0=> .s (uJ Q) (.lf (D.bF [D.agg [u32 0,i64 0,i64 0,i64 0,i64 0,i64 0,i64 0,i64 0,i64 0,i64 0,i64 0,i64 0,i64 0,i64 0,i64 0,u64 0,i64 0,D.v (Value.slice none 0 0),D.v (Value.slice none 0 0),D.v (Value.slice none 0 0),D.v (Value.slice none 0 0),i64 0,D.v (Value.slice none 0 0),D.v (Value.slice none 0 0),D.v (Value.slice none 0 0),i64 0,i64 0,i64 0,D.v (Value.slice none 0 0),D.v (Value.slice none 0 0),D.v (Value.slice none 0 0),D.v (Value.slice none 0 0),i64 0,D.v (Value.slice none 0 0),D.v (Value.slice none 0 0),D.v (Value.slice none 0 0),i64 0,i64 0,D.v (Value.slice none 0 0),u64 0,u64 0,u64 0],i64 (lG Q)]))) (fun e0=> .d (!mQ b0 r0 p0 b1 r1 p1 b2 r2 p2) (fun e1=> .lf (D.bF [D.agg [u32 0,i64 0,i64 0,i64 0,i64 0,i64 0,i64 0,i64 0,i64 0,i64 0,i64 0,i64 0,i64 0,i64 0,i64 0,u64 0,i64 0,D.v (Value.slice none 0 0),D.v (Value.slice none 0 0),D.v (Value.slice none 0 0),D.v (Value.slice none 0 0),i64 0,D.v (Value.slice none 0 0),D.v (Value.slice none 0 0),D.v (Value.slice none 0 0),i64 0,i64 0,i64 0,D.v (Value.slice none 0 0),D.v (Value.slice none 0 0),D.v (Value.slice none 0 0),D.v (Value.slice none 0 0),i64 0,D.v (Value.slice none 0 0),D.v (Value.slice none 0 0),D.v (Value.slice none 0 0),i64 0,i64 0,D.v (Value.slice none 0 0),u64 0,u64 0,u64 0],i64 8])) (fun e1=> .s (Be Q.U) (.s (Be Q.E) (.s ((aH.ints .u32 Q.rv).len=ah [.ints .u32 Q.rv]) (.s (ah [.ints .u32 Q.rv]*4≤17592186044416) (.s (Yn Q.ob Q.orr Q.op Q.ov Q.oq Q.oa b0 r0 p0 a) (.s (ZT Q.U a) (.s (ZT Q.E a) (.q (ah [.ints .u32 Q.rv]) (.q (ah [.ints .i64 (dm Q.E b2 r2 p2 a).no]) (.q (ah [.ints .i64 (dm Q.E b2 r2 p2 a).ps]) (.q (ah [.ints .u32 (dm Q.E b2 r2 p2 a).kx, .ints .i64 (dm Q.E b2 r2 p2 a).px, .bools (dm Q.E b2 r2 p2 a).ux]) (.q (ah [.bools (dm Q.E b2 r2 p2 a).us]) (.q (ah [.ints .i64 (dm Q.E b2 r2 p2 a).nx]) (.q (ah [.ints .i64 (dm Q.E b2 r2 p2 a).x1, .ints .i64 (dm Q.E b2 r2 p2 a).x2, .ints .i64 (dm Q.E b2 r2 p2 a).x3, .ints .i64 (dm Q.E b2 r2 p2 a).x4, .ints .i64 (dm Q.E b2 r2 p2 a).x5, .ints .u64 (dm Q.E b2 r2 p2 a).x6]) (.q (ah [.ints .u32 (dm Q.E b2 r2 p2 a).ks]) (.q (ah [.ints .i64 (dm Q.U b1 r1 p1 a).no]) (.q (ah [.ints .i64 (dm Q.U b1 r1 p1 a).ps]) (.q (ah [.ints .u32 (dm Q.U b1 r1 p1 a).kx, .ints .i64 (dm Q.U b1 r1 p1 a).px, .bools (dm Q.U b1 r1 p1 a).ux]) (.q (ah [.bools (dm Q.U b1 r1 p1 a).us]) (.q (ah [.ints .i64 (dm Q.U b1 r1 p1 a).nx]) (.q (ah [.ints .i64 (dm Q.U b1 r1 p1 a).x1, .ints .i64 (dm Q.U b1 r1 p1 a).x2, .ints .i64 (dm Q.U b1 r1 p1 a).x3, .ints .i64 (dm Q.U b1 r1 p1 a).x4, .ints .i64 (dm Q.U b1 r1 p1 a).x5, .ints .u64 (dm Q.U b1 r1 p1 a).x6]) (.q (ah [.ints .u32 (dm Q.U b1 r1 p1 a).ks]) (.lf (D.bF [D.agg [u32 Q.te,i64 b0,i64 r0,i64 p0,i64 b1,i64 r1,i64 p1,i64 b2,i64 r2,i64 p2,i64 b0,i64 r0,i64 p0,i64 (cgV Q.ob Q.orr Q.op Q.ov Q.oq Q.oa b0 a),i64 0,u64 (MeterS.CU Q.oa a),i64 (dm Q.U b1 r1 p1 a).n,D.oc [.ints .u32 (dm Q.U b1 r1 p1 a).ks],D.oc [.ints .i64 (dm Q.U b1 r1 p1 a).x1, .ints .i64 (dm Q.U b1 r1 p1 a).x2, .ints .i64 (dm Q.U b1 r1 p1 a).x3, .ints .i64 (dm Q.U b1 r1 p1 a).x4, .ints .i64 (dm Q.U b1 r1 p1 a).x5, .ints .u64 (dm Q.U b1 r1 p1 a).x6],D.oc [.ints .i64 (dm Q.U b1 r1 p1 a).nx],D.oc [.bools (dm Q.U b1 r1 p1 a).us],i64 (dm Q.U b1 r1 p1 a).fr,D.oc [.ints .u32 (dm Q.U b1 r1 p1 a).kx, .ints .i64 (dm Q.U b1 r1 p1 a).px, .bools (dm Q.U b1 r1 p1 a).ux],D.oc [.ints .i64 (dm Q.U b1 r1 p1 a).ps],D.oc [.ints .i64 (dm Q.U b1 r1 p1 a).no],i64 (dm Q.U b1 r1 p1 a).h,i64 (dm Q.U b1 r1 p1 a).t,i64 (dm Q.E b2 r2 p2 a).n,D.oc [.ints .u32 (dm Q.E b2 r2 p2 a).ks],D.oc [.ints .i64 (dm Q.E b2 r2 p2 a).x1, .ints .i64 (dm Q.E b2 r2 p2 a).x2, .ints .i64 (dm Q.E b2 r2 p2 a).x3, .ints .i64 (dm Q.E b2 r2 p2 a).x4, .ints .i64 (dm Q.E b2 r2 p2 a).x5, .ints .u64 (dm Q.E b2 r2 p2 a).x6],D.oc [.ints .i64 (dm Q.E b2 r2 p2 a).nx],D.oc [.bools (dm Q.E b2 r2 p2 a).us],i64 (dm Q.E b2 r2 p2 a).fr,D.oc [.ints .u32 (dm Q.E b2 r2 p2 a).kx, .ints .i64 (dm Q.E b2 r2 p2 a).px, .bools (dm Q.E b2 r2 p2 a).ux],D.oc [.ints .i64 (dm Q.E b2 r2 p2 a).ps],D.oc [.ints .i64 (dm Q.E b2 r2 p2 a).no],i64 (dm Q.E b2 r2 p2 a).h,i64 (dm Q.E b2 r2 p2 a).t,D.oc [.ints .u32 Q.rv],u64 Q.ta,u64 Q.tl,u64 Q.tc],i64 0]))))))))))))))))))))))))))
theorem aiM (Q:Pt) (b0 r0 p0 b1 r1 p1 b2 r2 p2 a:Int):Leaves (fun l=>cu Try.prog (ZQ) 100000 l 7 [Q.d,uI b0 r0 p0 b1 r1 p1 b2 r2 p2,u64 a]) (Fh Q b0 r0 p0 b1 r1 p1 b2 r2 p2 a) [] []:=by refine⟨fun _=>?_,fun _=>⟨fun _=>?_,fun _=>?_⟩⟩<;>(show _=_;kernel_rfl)
theorem zF (Q:Pt) (b0 r0 p0 b1 r1 p1 b2 r2 p2 a:Int) (res:D) (h0:At (fun r=>res=r) (Fh Q b0 r0 p0 b1 r1 p1 b2 r2 p2 a) [true] True) (h1:At (fun r=>res=r) (Fh Q b0 r0 p0 b1 r1 p1 b2 r2 p2 a) [false,true] True) (h2:At (fun r=>res=r) (Fh Q b0 r0 p0 b1 r1 p1 b2 r2 p2 a) [false,false] True):CallsD Try.prog 7 [Q.d,uI b0 r0 p0 b1 r1 p1 b2 r2 p2,u64 a] res:=au (KE) (aiM Q b0 r0 p0 b1 r1 p1 b2 r2 p2 a) ⟨fun e0=>h0 e0,fun e0=>⟨fun e1=>h1 e0 e1,fun e1=>h2 e0 e1⟩⟩
noncomputable def EL (Q:Pt) (b0:Int) (r0:Int) (p0:Int) (b1:Int) (r1:Int) (p1:Int) (b2:Int) (r2:Int) (p2:Int) (a:Int):Tr D:= .s (uJ Q) (.d (ai .neq (lG Q) 0) (fun e0=> .lf (D.bF [D.agg [u32 0,i64 0,i64 0,i64 0,i64 0,i64 0,i64 0,i64 0,i64 0,i64 0,i64 0,i64 0,i64 0,i64 0,i64 0,u64 0,i64 0,D.v (Value.slice none 0 0),D.v (Value.slice none 0 0),D.v (Value.slice none 0 0),D.v (Value.slice none 0 0),i64 0,D.v (Value.slice none 0 0),D.v (Value.slice none 0 0),D.v (Value.slice none 0 0),i64 0,i64 0,i64 0,D.v (Value.slice none 0 0),D.v (Value.slice none 0 0),D.v (Value.slice none 0 0),D.v (Value.slice none 0 0),i64 0,D.v (Value.slice none 0 0),D.v (Value.slice none 0 0),D.v (Value.slice none 0 0),i64 0,i64 0,D.v (Value.slice none 0 0),u64 0,u64 0,u64 0],i64 (lG Q)])) (fun e0=> .d (!mQ b0 r0 p0 b1 r1 p1 b2 r2 p2) (fun e1=> .lf (D.bF [D.agg [u32 0,i64 0,i64 0,i64 0,i64 0,i64 0,i64 0,i64 0,i64 0,i64 0,i64 0,i64 0,i64 0,i64 0,i64 0,u64 0,i64 0,D.v (Value.slice none 0 0),D.v (Value.slice none 0 0),D.v (Value.slice none 0 0),D.v (Value.slice none 0 0),i64 0,D.v (Value.slice none 0 0),D.v (Value.slice none 0 0),D.v (Value.slice none 0 0),i64 0,i64 0,i64 0,D.v (Value.slice none 0 0),D.v (Value.slice none 0 0),D.v (Value.slice none 0 0),D.v (Value.slice none 0 0),i64 0,D.v (Value.slice none 0 0),D.v (Value.slice none 0 0),D.v (Value.slice none 0 0),i64 0,i64 0,D.v (Value.slice none 0 0),u64 0,u64 0,u64 0],i64 8])) (fun e1=> .s (Q.rv.length≤200) (.s (Yn Q.ob Q.orr Q.op Q.ov Q.oq Q.oa b0 r0 p0 a) (.s (ZT Q.U a) (.s (ZT Q.E a) (.q (ah [.ints .u32 Q.rv]) (.q (ah [.ints .i64 (dm Q.E b2 r2 p2 a).no]) (.q (ah [.ints .i64 (dm Q.E b2 r2 p2 a).ps]) (.q (ah [.ints .u32 (dm Q.E b2 r2 p2 a).kx, .ints .i64 (dm Q.E b2 r2 p2 a).px, .bools (dm Q.E b2 r2 p2 a).ux]) (.q (ah [.bools (dm Q.E b2 r2 p2 a).us]) (.q (ah [.ints .i64 (dm Q.E b2 r2 p2 a).nx]) (.q (ah [.ints .i64 (dm Q.E b2 r2 p2 a).x1, .ints .i64 (dm Q.E b2 r2 p2 a).x2, .ints .i64 (dm Q.E b2 r2 p2 a).x3, .ints .i64 (dm Q.E b2 r2 p2 a).x4, .ints .i64 (dm Q.E b2 r2 p2 a).x5, .ints .u64 (dm Q.E b2 r2 p2 a).x6]) (.q (ah [.ints .u32 (dm Q.E b2 r2 p2 a).ks]) (.q (ah [.ints .i64 (dm Q.U b1 r1 p1 a).no]) (.q (ah [.ints .i64 (dm Q.U b1 r1 p1 a).ps]) (.q (ah [.ints .u32 (dm Q.U b1 r1 p1 a).kx, .ints .i64 (dm Q.U b1 r1 p1 a).px, .bools (dm Q.U b1 r1 p1 a).ux]) (.q (ah [.bools (dm Q.U b1 r1 p1 a).us]) (.q (ah [.ints .i64 (dm Q.U b1 r1 p1 a).nx]) (.q (ah [.ints .i64 (dm Q.U b1 r1 p1 a).x1, .ints .i64 (dm Q.U b1 r1 p1 a).x2, .ints .i64 (dm Q.U b1 r1 p1 a).x3, .ints .i64 (dm Q.U b1 r1 p1 a).x4, .ints .i64 (dm Q.U b1 r1 p1 a).x5, .ints .u64 (dm Q.U b1 r1 p1 a).x6]) (.q (ah [.ints .u32 (dm Q.U b1 r1 p1 a).ks]) (.lf (D.bF [D.agg [u32 Q.te,i64 b0,i64 r0,i64 p0,i64 b1,i64 r1,i64 p1,i64 b2,i64 r2,i64 p2,i64 b0,i64 r0,i64 p0,i64 (cgV Q.ob Q.orr Q.op Q.ov Q.oq Q.oa b0 a),i64 0,u64 (MeterS.CU Q.oa a),i64 (dm Q.U b1 r1 p1 a).n,D.oc [.ints .u32 (dm Q.U b1 r1 p1 a).ks],D.oc [.ints .i64 (dm Q.U b1 r1 p1 a).x1, .ints .i64 (dm Q.U b1 r1 p1 a).x2, .ints .i64 (dm Q.U b1 r1 p1 a).x3, .ints .i64 (dm Q.U b1 r1 p1 a).x4, .ints .i64 (dm Q.U b1 r1 p1 a).x5, .ints .u64 (dm Q.U b1 r1 p1 a).x6],D.oc [.ints .i64 (dm Q.U b1 r1 p1 a).nx],D.oc [.bools (dm Q.U b1 r1 p1 a).us],i64 (dm Q.U b1 r1 p1 a).fr,D.oc [.ints .u32 (dm Q.U b1 r1 p1 a).kx, .ints .i64 (dm Q.U b1 r1 p1 a).px, .bools (dm Q.U b1 r1 p1 a).ux],D.oc [.ints .i64 (dm Q.U b1 r1 p1 a).ps],D.oc [.ints .i64 (dm Q.U b1 r1 p1 a).no],i64 (dm Q.U b1 r1 p1 a).h,i64 (dm Q.U b1 r1 p1 a).t,i64 (dm Q.E b2 r2 p2 a).n,D.oc [.ints .u32 (dm Q.E b2 r2 p2 a).ks],D.oc [.ints .i64 (dm Q.E b2 r2 p2 a).x1, .ints .i64 (dm Q.E b2 r2 p2 a).x2, .ints .i64 (dm Q.E b2 r2 p2 a).x3, .ints .i64 (dm Q.E b2 r2 p2 a).x4, .ints .i64 (dm Q.E b2 r2 p2 a).x5, .ints .u64 (dm Q.E b2 r2 p2 a).x6],D.oc [.ints .i64 (dm Q.E b2 r2 p2 a).nx],D.oc [.bools (dm Q.E b2 r2 p2 a).us],i64 (dm Q.E b2 r2 p2 a).fr,D.oc [.ints .u32 (dm Q.E b2 r2 p2 a).kx, .ints .i64 (dm Q.E b2 r2 p2 a).px, .bools (dm Q.E b2 r2 p2 a).ux],D.oc [.ints .i64 (dm Q.E b2 r2 p2 a).ps],D.oc [.ints .i64 (dm Q.E b2 r2 p2 a).no],i64 (dm Q.E b2 r2 p2 a).h,i64 (dm Q.E b2 r2 p2 a).t,D.oc [.ints .u32 Q.rv],u64 Q.ta,u64 Q.tl,u64 Q.tc],i64 0])))))))))))))))))))))))
theorem ahy (Q:Pt) (b0 r0 p0 b1 r1 p1 b2 r2 p2 a:Int):Leaves (fun l=>cu Try.prog (ZQ) 100000 l 6 [Q.d,uI b0 r0 p0 b1 r1 p1 b2 r2 p2,u64 a]) (EL Q b0 r0 p0 b1 r1 p1 b2 r2 p2 a) [] []:=by refine⟨fun _=>?_,fun _=>⟨fun _=>?_,fun _=>?_⟩⟩<;>(show _=_;kernel_rfl)
theorem zQ (Q:Pt) (b0 r0 p0 b1 r1 p1 b2 r2 p2 a:Int) (res:D) (h0:At (fun r=>res=r) (EL Q b0 r0 p0 b1 r1 p1 b2 r2 p2 a) [true] True) (h1:At (fun r=>res=r) (EL Q b0 r0 p0 b1 r1 p1 b2 r2 p2 a) [false,true] True) (h2:At (fun r=>res=r) (EL Q b0 r0 p0 b1 r1 p1 b2 r2 p2 a) [false,false] True):CallsD Try.prog 6 [Q.d,uI b0 r0 p0 b1 r1 p1 b2 r2 p2,u64 a] res:=au (KE) (ahy Q b0 r0 p0 b1 r1 p1 b2 r2 p2 a) ⟨fun e0=>h0 e0,fun e0=>⟨fun e1=>h1 e0 e1,fun e1=>h2 e0 e1⟩⟩
noncomputable def O0 (Q:Pt) (b0 r0 p0 b1 r1 p1 b2 r2 p2 a:Int):Pt:=if lG Q=0∧mQ b0 r0 p0 b1 r1 p1 b2 r2 p2=true then
 ⟨Q.te,b0,r0,p0,b1,r1,p1,b2,r2,p2,b0,r0,p0,cgV Q.ob Q.orr Q.op Q.ov Q.oq Q.oa b0 a,0,MeterS.CU Q.oa a,dm Q.U b1 r1 p1 a,dm Q.E b2 r2 p2 a,Q.rv,Q.ta,Q.tl,Q.tc⟩ else q0
noncomputable def WJ (Q:Pt) (b0 r0 p0 b1 r1 p1 b2 r2 p2:Int):Int:=if lG Q=0 then(if mQ b0 r0 p0 b1 r1 p1 b2 r2 p2=true then 0 else 8) else lG Q
def liS (Q:Pt) (a:Int):Prop:=uJ Q∧ZT Q.U a∧ZT Q.E a∧0≤Q.oa∧Q.oa<18446744073709551616
theorem D7 {Q:Pt} (h:lG Q=0):ckP Q:=by
 by_cases c:ckP Q
 ·exact c
 ·rw[gy c] at h;omega
theorem RN {b0 r0 p0 b1 r1 p1 b2 r2 p2:Int} (h:mQ b0 r0 p0 b1 r1 p1 b2 r2 p2=true):iV b0 r0 p0=0∧iV b1 r1 p1=0∧iV b2 r2 p2=0:=by
 unfold mQ at h
 simp only[Bool.and_eq_true,decide_eq_true_eq] at h
 exact h
theorem afo (Q:Pt) (b0 r0 p0 b1 r1 p1 b2 r2 p2 a:Int) (h:liS Q a):CallsD Try.prog 7 [Q.d,uI b0 r0 p0 b1 r1 p1 b2 r2 p2,u64 a] (.bF [(O0 Q b0 r0 p0 b1 r1 p1 b2 r2 p2 a).o,i64 (WJ Q b0 r0 p0 b1 r1 p1 b2 r2 p2)]):=by
 obtain⟨ho,hU,hE,hoa⟩:=h
 obtain⟨t1,t2,t3⟩:=pG ho
 by_cases c:lG Q=0
 ·cases f:mQ b0 r0 p0 b1 r1 p1 b2 r2 p2 with
  |true=>
   have cg:Yn Q.ob Q.orr Q.op Q.ov Q.oq Q.oa b0 r0 p0 a:=⟨⟨(D7 c).2.2.1,hoa,hU.2.2⟩,ho.1,(RN f).1⟩
   unfold O0 WJ
   rw[if_pos ⟨c,f⟩,if_pos c,if_pos f]
   refine zF Q b0 r0 p0 b1 r1 p1 b2 r2 p2 a _ ?_ ?_ ?_<;>dsimp only[At,Tr.q,Fh]
   ·intro g;rw[aP] at g;exact absurd c g
   ·intro _ g;rw[f] at g;cases g
   ·intro _ _;exact⟨⟨hE,hU,cg,by simp only[ah,aH.len];omega,rfl,t2,t1,ho,trivial⟩,rfl⟩
  |false=>
   unfold O0 WJ
   rw[if_neg (fun n=>by rw[n.2] at f;cases f),if_pos c,if_neg (by rw[f];simp)]
   refine bH (bM.bF (.cons Gs (.refl _))) ?_
   refine zF Q b0 r0 p0 b1 r1 p1 b2 r2 p2 a _ ?_ ?_ ?_<;>dsimp only[At,Tr.q,Fh]
   ·intro g;rw[aP] at g;exact absurd c g
   ·intro _ _;exact⟨⟨ho,trivial⟩,rfl⟩
   ·intro _ g;rw[f] at g;cases g
 ·unfold O0 WJ
  rw[if_neg (fun n=>c n.1),if_neg c]
  refine bH (bM.bF (.cons Gs (.refl _))) ?_
  refine zF Q b0 r0 p0 b1 r1 p1 b2 r2 p2 a _ ?_ ?_ ?_<;>dsimp only[At,Tr.q,Fh]
  ·intro _;exact⟨⟨ho,ho,trivial⟩,rfl⟩
  ·intro g;rw[aY] at g;exact absurd g c
  ·intro g;rw[aY] at g;exact absurd g c
theorem adQ (Q:Pt) (b0 r0 p0 b1 r1 p1 b2 r2 p2 a:Int) (h:liS Q a):CallsD Try.prog 6 [Q.d,uI b0 r0 p0 b1 r1 p1 b2 r2 p2,u64 a] (.bF [(O0 Q b0 r0 p0 b1 r1 p1 b2 r2 p2 a).o,i64 (WJ Q b0 r0 p0 b1 r1 p1 b2 r2 p2)]):=by
 obtain⟨ho,hU,hE,hoa⟩:=h
 obtain⟨t1,t2,t3⟩:=pG ho
 by_cases c:lG Q=0
 ·cases f:mQ b0 r0 p0 b1 r1 p1 b2 r2 p2 with
  |true=>
   have cg:Yn Q.ob Q.orr Q.op Q.ov Q.oq Q.oa b0 r0 p0 a:=⟨⟨(D7 c).2.2.1,hoa,hU.2.2⟩,ho.1,(RN f).1⟩
   unfold O0 WJ
   rw[if_pos ⟨c,f⟩,if_pos c,if_pos f]
   refine zQ Q b0 r0 p0 b1 r1 p1 b2 r2 p2 a _ ?_ ?_ ?_<;>dsimp only[At,Tr.q,EL]
   ·intro g;rw[aP] at g;exact absurd c g
   ·intro _ g;rw[f] at g;cases g
   ·intro _ _;exact⟨⟨hE,hU,cg,t3,ho,trivial⟩,rfl⟩
  |false=>
   unfold O0 WJ
   rw[if_neg (fun n=>by rw[n.2] at f;cases f),if_pos c,if_neg (by rw[f];simp)]
   refine bH (bM.bF (.cons Gs (.refl _))) ?_
   refine zQ Q b0 r0 p0 b1 r1 p1 b2 r2 p2 a _ ?_ ?_ ?_<;>dsimp only[At,Tr.q,EL]
   ·intro g;rw[aP] at g;exact absurd c g
   ·intro _ _;exact⟨⟨ho,trivial⟩,rfl⟩
   ·intro _ g;rw[f] at g;cases g
 ·unfold O0 WJ
  rw[if_neg (fun n=>c n.1),if_neg c]
  refine bH (bM.bF (.cons Gs (.refl _))) ?_
  refine zQ Q b0 r0 p0 b1 r1 p1 b2 r2 p2 a _ ?_ ?_ ?_<;>dsimp only[At,Tr.q,EL]
  ·intro _;exact⟨⟨ho,trivial⟩,rfl⟩
  ·intro g;rw[aY] at g;exact absurd g c
  ·intro g;rw[aY] at g;exact absurd g c
end TableS
end

section
namespace TableS
open Go Go.Dam Go.Proofs
set_option maxRecDepth 1000000
noncomputable def KD (Q:Pt):=Q.b2 ==Q.b2 && (Q.r2 ==Q.r2 && (Q.p2 ==Q.p2 && true)) && true
noncomputable def Jr (Q:Pt):=Q.b1 ==Q.b1 && (Q.r1 ==Q.r1 && (Q.p1 ==Q.p1 && true)) && (KD Q)
noncomputable def Kv (Q:Pt):=Q.b0 ==Q.b0 && (Q.r0 ==Q.r0 && (Q.p0 ==Q.p0 && true)) && (Jr Q)
noncomputable def JR (Q:Pt):=Q.ob ==Q.ob && (Q.orr ==Q.orr && (Q.op ==Q.op && true)) && (Q.ov ==Q.ov && (Q.oq ==Q.oq && (Q.oa ==Q.oa && true)))
noncomputable def vM (Q:Pt):Tr D:= .d (ai .eql Q.te Q.te) (fun e0=> .p (.c 3) (.d (Kv Q) (fun e1=> .p (.c 3) (.d (JR Q) (fun e2=> .p (.c 13) (.s (Be Q.U) (.q (Q.U) (.s (Be Q.E) (.q (Q.E) (.s (Q.rv.length≤200) (.d (ND Q.rv Q.rv) (fun e3=> .p (.c 3) (.lf (D.v (Value.bool (Q.ta ==Q.ta && (Q.tl ==Q.tl && (Q.tc ==Q.tc && true))))))) (fun e3=> .p (.c 3) (.lf (bo false)))))))))) (fun e2=> .p (.c 18) (.lf (bo false))))) (fun e1=> .p (.c 23) (.lf (bo false))))) (fun e0=> .p (.c 28) (.lf (bo false)))
theorem afP (Q:Pt):Leaves (fun l=>cu Try.prog (XP4) 100000 l 14 [Q.d,Q.d]) (vM Q) [] []:=by refine⟨fun _=>⟨fun _=>⟨fun _=>⟨fun _=>?_,fun _=>?_⟩,fun _=>?_⟩,fun _=>?_⟩,fun _=>?_⟩<;>(show _=_;kernel_rfl)
theorem Q9 (Q:Pt) (res:D) (h0:At (fun r=>res=r) (vM Q) [true,true,true,true] True) (h1:At (fun r=>res=r) (vM Q) [true,true,true,false] True) (h2:At (fun r=>res=r) (vM Q) [true,true,false] True) (h3:At (fun r=>res=r) (vM Q) [true,false] True) (h4:At (fun r=>res=r) (vM Q) [false] True):CallsD Try.prog 14 [Q.d,Q.d] res:=au (U9) (afP Q) ⟨fun e0=>⟨fun e1=>⟨fun e2=>⟨fun e3=>h0 e0 e1 e2 e3,fun e3=>h1 e0 e1 e2 e3⟩,fun e2=>h2 e0 e1 e2⟩,fun e1=>h3 e0 e1⟩,fun e0=>h4 e0⟩
theorem aaz (Q:Pt) (h:Gh Q):CallsD Try.prog 14 [Q.d,Q.d] (bo true):=by
 obtain⟨h1,h2,h3⟩:=h
 refine Q9 Q _ ?_ ?_ ?_ ?_ ?_<;>dsimp only[At,Tr.q,vM]
 ·intro _ _ _ _;exact⟨⟨h3,h2,h1,trivial⟩,by simp⟩
 ·intro _ _ _ g;simp[ND] at g
 ·intro _ _ g;simp[JR,Kv,Jr,KD] at g
 ·intro _ g;simp[JR,Kv,Jr,KD] at g
 ·intro g;rw[je] at g;exact absurd rfl g
def Y9 (f:Pt→Pt→D×List Prop):List D→Option (D×List Prop)
 |[d,e]=>match Pm d,Pm e with
  |some Q,some R=>some (f Q R)
  |_,_=>none
 |_=>none
theorem Y0 {f:Pt→Pt→D×List Prop} {g:FuncId} (hf:∀ Q R,aI (f Q R).2→CallsD Try.prog g [Q.d,R.d] (f Q R).1) (args res l) (h:Y9 f args=some (res,l)) (hl:aI l):CallsD Try.prog g args res:=by
 unfold Y9 at h
 split at h
 next d e=>
  split at h
  next Q R hq hr=>
   simp only[Option.some.injEq] at h
   have e1:=DU hq
   have e2:=DU hr
   subst e1 e2
   have:=hf Q R (by rw[h];exact hl)
   rw[h] at this;exact this
  ·cases h
 ·cases h
def acZ (Q R:Pt):D×List Prop:=(bo true,[Q=R,Gh Q])
def acU:List D→Option (D×List Prop):=Y9 acZ
theorem YV (args res l) (h:acU args=some (res,l)) (hl:aI l):CallsD Try.prog 14 args res:=Y0 (f:=acZ) (fun Q R h=>by obtain⟨rfl,w,_⟩:=h;exact aaz Q w) args res l h hl
end TableS
end

section
namespace TableS
open Go Go.Dam Go.Proofs
set_option maxRecDepth 1000000
def Tb.fw (T:Tb) (d1 d2 d3 d4 d5 d6 d7:Nat):List D:=[i64 T.n,D.sl d1 0 T.ks.length ⟨1,0⟩,D.sl d2 0 T.x1.length ⟨6,0⟩,D.sl d3 0 T.nx.length ⟨1,0⟩,D.sl d4 0 T.us.length ⟨1,0⟩,i64 T.fr,D.sl d5 0 T.kx.length ⟨3,0⟩,D.sl d6 0 T.ps.length ⟨1,0⟩,D.sl d7 0 T.no.length ⟨1,0⟩,i64 T.h,i64 T.t]
def z42:List D:=[u32 0,i64 0,i64 0,i64 0,i64 0,i64 0,i64 0,i64 0,i64 0,i64 0,i64 0,i64 0,i64 0,i64 0,i64 0,u64 0] ++ (z11 ++ (z11 ++ [ZX,u64 0,u64 0,u64 0]))
def Pt.fw (Q:Pt) (k:Nat):List D:=[u32 Q.te,i64 Q.b0,i64 Q.r0,i64 Q.p0,i64 Q.b1,i64 Q.r1,i64 Q.p1,i64 Q.b2,i64 Q.r2,i64 Q.p2,i64 Q.ob,i64 Q.orr,i64 Q.op,i64 Q.ov,i64 Q.oq,u64 Q.oa] ++ (Q.U.fw 480 481 482 483 484 485 486 ++ (Q.E.fw 487 488 489 490 491 492 493 ++ [D.sl 494 0 k ⟨1,0⟩,u64 Q.ta,u64 Q.tl,u64 Q.tc]))
noncomputable def Tb.bw (T:Tb) (d1 d2 d3 d4 d5 d6 d7:Nat):List (Nat×BX):=[(d1,BX.row [.ints .u32 T.ks] false),(d2,BX.row [.ints .i64 T.x1, .ints .i64 T.x2, .ints .i64 T.x3, .ints .i64 T.x4, .ints .i64 T.x5, .ints .u64 T.x6] false),(d3,BX.row [.ints .i64 T.nx] false),(d4,BX.row [.bools T.us] false),(d5,BX.row [.ints .u32 T.kx, .ints .i64 T.px, .bools T.ux] false),(d6,BX.row [.ints .i64 T.ps] false),(d7,BX.row [.ints .i64 T.no] false)]
noncomputable def Wp (Q:Pt) (o i:Int) (k:Nat) (xs:List Int):Cs:=⟨TT.of [(4,D.ptr 128 0),(5,i64 o),(6,D.ptr 192 0),(7,i64 i)],74,[],
 [(128,BX.cells z42 false),(192,BX.cells (Q.fw k) false)] ++ (Q.U.bw 480 481 482 483 484 485 486 ++ (Q.E.bw 487 488 489 490 491 492 493 ++ [(494,BX.row [.ints .u32 xs] false)])),none,0⟩
end TableS
end

section
namespace TableS
open Go Go.Dam Go.Proofs
set_option maxRecDepth 1000000
noncomputable def EP (i:Int) (xs:List Int):=xs.set i.toNat (xs.getD (aj .sub .i64 i 1).toNat 0)
noncomputable def C9 (i:Int) (xs:List Int):=ai .lss (xs.getD i.toNat 0) (xs.getD (aj .sub .i64 i 1).toNat 0)
noncomputable def DJ (Q:Pt) (o:Int) (i:Int) (k:Nat) (xs:List Int):Tr (Ex×Cs):= .d (ai .gtr i 0) (fun e0=> .p (.c 10) (.s (decide (i< ↑k)=true) (.s (decide (0≤i)=true) (.s (i.toNat<xs.length) (.s (decide (aj .sub .i64 i 1< ↑k)=true) (.s (decide (0≤aj .sub .i64 i 1)=true) (.s ((aj .sub .i64 i 1).toNat<xs.length) (.d (C9 i xs) (fun e1=> .s (decide (aj .sub .i64 i 1< ↑k)=true) (.s (decide (0≤aj .sub .i64 i 1)=true) (.s ((aj .sub .i64 i 1).toNat<xs.length) (.s (decide (i< ↑k)=true) (.s (decide (0≤i)=true) (.s (i.toNat<xs.length) (.s (decide (i< ↑k)=true) (.s (decide (0≤i)=true) (.s ((aH.ints .u32 xs).len=xs.length) (.s (i.toNat<xs.length) (.s (decide (aj .sub .i64 i 1< ↑k)=true) (.s (decide (0≤aj .sub .i64 i 1)=true) (.s ((aH.ints .u32 (EP i xs)).len=ah [.ints .u32 (EP i xs)]) (.s ((aj .sub .i64 i 1).toNat<ah [.ints .u32 (EP i xs)]) (.lf (Ex.normal,(Wp Q (o) (aj .sub .i64 i 1) (k) ((EP i xs).set (aj .sub .i64 i 1).toNat (xs.getD i.toNat 0))))))))))))))))))) (fun e1=> .lf (Ex.exit 0,(Wp Q (o) (i) (k) (xs)))))))))))) (fun e0=> .p (.c 11) (.lf (Ex.exit 0,(Wp Q (o) (i) (k) (xs)))))
theorem aiV (Q:Pt) (o i:Int) (k:Nat) (xs:List Int):Leaves (bT Try.prog (XP4) 100000 (af Try.prog 9 0) [[4,5,6,7]] [(128,128),(192,192),(480,480),(481,481),(482,482),(483,483),(484,484),(485,485),(486,486),(487,487),(488,488),(489,489),(490,490),(491,491),(492,492),(493,493),(494,494)] (Wp Q o i k xs)) (DJ Q o i k xs) [] []:=by refine⟨fun _=>⟨fun _=>?_,fun _=>?_⟩,fun _=>?_⟩<;>(show _=_;kernel_rfl)
theorem D5 (Q:Pt) (o:Int) (i:Int) (k:Nat) (xs:List Int) (σ:St) (e:Ex) (h0:At (RG Try.prog (af Try.prog 9 0) e σ) (DJ Q o i k xs) [true,true] True) (h1:At (RG Try.prog (af Try.prog 9 0) e σ) (DJ Q o i k xs) [true,false] True) (h2:At (RG Try.prog (af Try.prog 9 0) e σ) (DJ Q o i k xs) [false] True):Runs Try.prog (CallsD Try.prog) (.rounds (af Try.prog 9 0)) (Wp Q o i k xs).abs e σ:=aO (U9) (aiV Q o i k xs) ⟨fun e0=>⟨fun e1=>h0 e0 e1,fun e1=>h1 e0 e1⟩,fun e0=>h2 e0⟩
def insL (xs:List Int) (u:Int) (i:Nat):List Int:=xs.take i ++ u::xs.drop i
theorem TW (b u:Int) (B:List Int):∀ A:List Int,(((A ++ b::u::B).set (A.length+1) ((A ++ b::u::B).getD A.length 0)).set A.length ((A ++ b::u::B).getD (A.length+1) 0))=A ++ u::b::B
 |[]=>rfl
 |a::A=>by
  have ih:=TW b u B A
  simp only[List.cons_append,List.length_cons,List.getD_cons_succ,List.set_cons_succ]
  rw[ih]
theorem JA (xs:List Int) (u:Int) {i:Nat} (h:i<xs.length):insL xs u (i+1)=xs.take i ++ xs.getD i 0::u::xs.drop (i+1)∧insL xs u i=xs.take i ++ u::xs.getD i 0::xs.drop (i+1):=by
 have e:xs.getD i 0=xs[i]:=by rw[List.getD_eq_getElem?_getD,List.getElem?_eq_getElem h];rfl
 unfold insL
 refine⟨?_,?_⟩
 ·rw[List.take_succ_eq_append_getElem h,e,List.append_assoc];rfl
 ·rw[e,←List.drop_eq_getElem_cons h]
end TableS
end

section
namespace TableS
open Go Go.Dam Go.Proofs
set_option maxRecDepth 1000000
theorem Qw (b u:Int) (B:List Int):∀ A:List Int,(A ++ b::u::B).getD A.length 0=b∧(A ++ b::u::B).getD (A.length+1) 0=u
 |[]=>⟨rfl,rfl⟩
 |a::A=>by
  have ih:=Qw b u B A
  simp only[List.cons_append,List.length_cons,List.getD_cons_succ]
  exact ih
theorem BK (xs:List Int) (u:Int) {i:Nat} (h:i≤xs.length):(insL xs u i).length=xs.length+1:=by
 unfold insL
 rw[List.length_append,List.length_take,List.length_cons,List.length_drop];omega
theorem Yp (Q:Pt) (u:Int) (s:srt Q.rv) (nu:u∉Q.rv) (hl:Q.rv.length≤8):∀ (d i:Nat),i=jg Q.rv u+d→i≤Q.rv.length→
  Runs Try.prog (CallsD Try.prog) (.rounds (af Try.prog 9 0)) (Wp Q 0 i (Q.rv.length+1) (insL Q.rv u i)).abs (.exit 0) (Wp Q 0 (jg Q.rv u) (Q.rv.length+1) (insL Q.rv u (jg Q.rv u))).abs
 |0,i,hi,h=>by
  have ei:i=jg Q.rv u:=by omega
  rw[←ei]
  cases hz:i with
  |zero=>
   refine D5 Q 0 (0:Nat) (Q.rv.length+1) (insL Q.rv u 0) _ _ ?_ ?_ ?_<;>dsimp only[At,Tr.q,RG,DJ]
   ·intro g;rw[dV] at g;omega
   ·intro g;rw[dV] at g;omega
   ·intro _;exact⟨trivial,rfl,rfl⟩
  |succ j=>
   have hj:j<Q.rv.length:=by omega
   have lt:Q.rv.getD j 0<u:=YE (by omega)
   have pre:aj .sub .i64 ((j+1:Nat):Int) 1=(j:Int):=by rw[eY,aT (by omega) (by omega)];omega
   have L:=BK Q.rv u (i:=j+1) (by omega)
   have tl:(Q.rv.take j).length=j:=by rw[List.length_take];omega
   obtain⟨a1,a2⟩:=Qw (Q.rv.getD j 0) u (Q.rv.drop (j+1)) (Q.rv.take j)
   rw[←(JA Q.rv u hj).1,tl] at a1 a2
   have c1:C9 ((j+1:Nat):Int) (insL Q.rv u (j+1))=false:=by
    unfold C9;rw[pre,Int.toNat_natCast,Int.toNat_natCast,a1,a2,aX];omega
   have q1:j+1<Q.rv.length+1:=by omega
   have q0:j<Q.rv.length+1:=by omega
   refine D5 Q 0 ((j+1:Nat):Int) (Q.rv.length+1) (insL Q.rv u (j+1)) _ _ ?_ ?_ ?_<;>dsimp only[At,Tr.q,RG,DJ]
   ·intro _ g;rw[c1] at g;cases g
   ·intro _ _
    rw[pre,Int.toNat_natCast,Int.toNat_natCast]
    exact⟨⟨by omega,(ay q0).1,(ay q0).2,by omega,(ay q1).1,(ay q1).2,trivial⟩,rfl,rfl⟩
   ·intro g;rw[gI] at g;omega
 |d+1,i,hi,h=>by
  obtain⟨j,rfl⟩:∃ j,i=j+1:=⟨i - 1,by omega⟩
  have hj:j<Q.rv.length:=by omega
  have ge:¬ Q.rv.getD j 0<u:=Zz s (by omega) hj
  have ne:Q.rv.getD j 0≠u:=fun e=>nu (by
   rw[←e,List.getD_eq_getElem?_getD,List.getElem?_eq_getElem hj];exact List.getElem_mem hj)
  have ih:=Yp Q u s nu hl d j (by omega) (by omega)
  have pre:aj .sub .i64 ((j+1:Nat):Int) 1=(j:Int):=by rw[eY,aT (by omega) (by omega)];omega
  have L:=BK Q.rv u (i:=j+1) (by omega)
  have tl:(Q.rv.take j).length=j:=by rw[List.length_take];omega
  obtain⟨a1,a2⟩:=Qw (Q.rv.getD j 0) u (Q.rv.drop (j+1)) (Q.rv.take j)
  have sw:=TW (Q.rv.getD j 0) u (Q.rv.drop (j+1)) (Q.rv.take j)
  rw[←(JA Q.rv u hj).1,tl] at a1 a2
  rw[←(JA Q.rv u hj).1,←(JA Q.rv u hj).2,tl] at sw
  have c1:C9 ((j+1:Nat):Int) (insL Q.rv u (j+1))=true:=by
   unfold C9;rw[pre,Int.toNat_natCast,Int.toNat_natCast,a1,a2,aQ];omega
  have q1:j+1<Q.rv.length+1:=by omega
  have q0:j<Q.rv.length+1:=by omega
  refine D5 Q 0 ((j+1:Nat):Int) (Q.rv.length+1) (insL Q.rv u (j+1)) _ _ ?_ ?_ ?_<;>dsimp only[At,Tr.q,RG,DJ]
  ·intro _ _
   unfold EP
   rw[pre,Int.toNat_natCast,Int.toNat_natCast,sw]
   refine⟨?_,ih⟩
   (repeat' apply And.intro)<;>first | exact trivial | rfl | exact(ay q0).1 | exact(ay q0).2 | exact(ay q1).2 | omega | (simp only[ah,aH.len,List.length_set]<;>omega)
  ·intro _ g;rw[c1] at g;cases g
  ·intro g;rw[gI] at g;omega
end TableS
end
