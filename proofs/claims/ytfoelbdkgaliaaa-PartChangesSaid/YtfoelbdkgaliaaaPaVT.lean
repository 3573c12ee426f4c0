/- What the functions compute, and the law. No condition. -/
import Derived.Test.YtfoelbdkgaliaaaPaTZ
set_option linter.unusedSectionVars false
set_option linter.unusedVariables false
set_option linter.unusedSimpArgs false
section
namespace TableS
open Go Go.Dam Go.Proofs
set_option maxRecDepth 1000000
theorem pK {nx:List Int}:∀ {d:Nat} {i:Int} {l l':List Int},chain nx d i l=some l'→∃ t,l'=l ++ t
 |0,_,_,_,h=>by cases h
 |d+1,i,l,l',h=>by
  simp only[chain] at h
  split at h
  ·simp only[Option.some.injEq] at h;exact⟨[],by simp[h]⟩
  ·split at h
   ·cases h
   ·obtain⟨t,e⟩:=pK h
    exact⟨i::t,by rw[e];simp⟩
def Iu (n:Nat) (us ys:List Bool) (l:List Int):Prop:=ys.length=n∧∀ j,j<n→ys.getD j false=(us.getD j false || decide ((j:Int)∈l))
theorem Je {n:Nat} {us ys:List Bool} {l:List Int} (h:Iu n us ys l) {i:Int} (h0:0≤i) (h1:i<(n:Int)):Iu n us (ys.set i.toNat true) (l ++ [i]):=by
 refine⟨by simpa using h.1,fun j hj=>?_⟩
 have hl:=h.1
 by_cases e:i.toNat=j
 ·subst e
  have:i=((i.toNat:Nat):Int):=by omega
  simp only[List.getD_eq_getElem?_getD]
  rw[List.getElem?_set_self (by omega)]
  simp[←this]
 ·have:=h.2 j hj
  simp only[List.getD_eq_getElem?_getD] at this ⊢
  rw[List.getElem?_set_ne e,this]
  have:(j:Int)≠i:=by omega
  simp[this]
theorem Aj {nx:List Int} {us:List Bool}:∀ (d:Nat) (i:Int) (ys:List Bool) (l l':List Int),Iu nx.length us ys l→chain nx d i l=some l'→(∀ x∈l',us.getD x.toNat false=false)→
  ∃ ys',qC nx d i ys=some ys'∧Iu nx.length us ys' l'
 |0,_,_,_,_,_,h,_=>by cases h
 |d+1,i,ys,l,l',hs,h,hu=>by
  simp only[chain] at h
  simp only[qC]
  by_cases c1:i=-1
  ·rw[if_pos c1] at h ⊢
   simp only[Option.some.injEq] at h;subst h
   exact⟨ys,rfl,hs⟩
  ·rw[if_neg c1] at h ⊢
   split at h
   ·cases h
   next c2=>
    have h0:0≤i:=by omega
    have h1:i<(nx.length:Int):=by omega
    have hm:i∉l:=fun hm=>c2 (.inr (.inr hm))
    obtain⟨t,e⟩:=pK h
    have hi:us.getD i.toNat false=false:=hu i (by rw[e];simp)
    have hy:ys.getD i.toNat false=false:=by
     rw[hs.2 i.toNat (by omega),hi,show((i.toNat:Nat):Int)=i by omega];simpa using hm
    rw[if_neg (by rw[hy];rintro(c | c | c)<;>first | omega | cases c)]
    exact Aj d _ _ _ _ (Je hs h0 h1) h hu
theorem aaj {nx:List Int} {us:List Bool} {f:Int} (h:wJ nx us f=0):1≤nx.length∧nx.length≤16∧us.length=nx.length∧GY nx f=true∧∀ i,i<nx.length→pO nx us f i=false:=by
 unfold wJ at h;split at h
 next c=>
  split at h
  next d=>exact⟨c.1,c.2.1,c.2.2.1,c.2.2.2,fun i hi=>(dM _ 0).1 d i (by omega) (by omega)⟩
  next=>cases h
 next=>cases h
theorem Xd {a b:Bool} (h:(a ==b)=false):a=!b:=by cases a<;>cases b<;>simp_all
theorem afz {nx:List Int} {us:List Bool} {f:Int} (h:wJ nx us f=0):OZ nx us f=0:=by
 obtain⟨c1,c2,c3,c4,c5⟩:=aaj h
 have ho:=ug c4
 have hu:∀ j,j<nx.length→us.getD j false=!inB (dN nx f) j:=fun j hj=>by
  have:=c5 j hj
  simp only[pO,Bool.or_eq_false_iff] at this
  exact Xd this.1
 obtain⟨ys,e,hs⟩:=Aj (nx:=nx) (us:=us) (nx.length+1) f us [] (dN nx f) ⟨c3,fun j hj=>by simp⟩ (zf c4) fun x hx=>by
  have hb:=ho.2 x hx
  rw[hu x.toNat (by omega),show((x.toNat:Nat):Int)=x by omega]
  simpa [inB] using hx
 unfold OZ
 rw[if_pos ⟨c1,c2,c3⟩,e]
 simp only
 rw[if_pos]
 rw[dM]
 intro j _ hj
 have hj:j<nx.length:=by omega
 have h1:=hs.2 j hj
 have h2:=c5 j hj
 simp only[pO,Bool.or_eq_false_iff] at h2
 have h3:=hu j hj
 simp only[Ed,h2.2,Bool.or_false]
 rw[h1,h3]
 unfold inB
 by_cases m:(j:Int)∈dN nx f<;>simp[m]
theorem jl {l:List Int} {i:Nat} {x:Int} (h:i<l.length):(l.set i x).getD i 0=x:=by
 rw[List.getD_eq_getElem?_getD,List.getElem?_set_self h];rfl
theorem getD_set_ne {l:List Int} {i j:Nat} {x:Int} (h:i≠j):(l.set i x).getD j 0=l.getD j 0:=by
 rw[List.getD_eq_getElem?_getD,List.getElem?_set_ne h,←List.getD_eq_getElem?_getD]
theorem lM {l:List Int} (h:l.Nodup) {i j:Nat} (hi:i<l.length) (hj:j<l.length) (e:l.getD i 0=l.getD j 0):i=j:=by
 rw[List.getD_eq_getElem?_getD,List.getD_eq_getElem?_getD,List.getElem?_eq_getElem hi,List.getElem?_eq_getElem hj] at e
 exact(List.getElem_inj h).1 e
theorem nX {n:Nat} {l:List Int} (h:Lu n l) {i:Nat} (hi:i<l.length):0≤l.getD i 0∧l.getD i 0<(n:Int):=by
 apply h.2
 rw[List.getD_eq_getElem?_getD,List.getElem?_eq_getElem hi];exact List.getElem_mem hi
theorem QI {n:Nat} {xs:List Int} (h:Lu n xs):∀ m,m≤xs.length→(∀ k,0<k→k<m→(CV n xs m).getD (xs.getD k 0).toNat 0=xs.getD (k - 1) 0)∧
  (∀ j,j<n→(∀ k,0<k→k<m→xs.getD k 0≠j)→(CV n xs m).getD j 0=-1)
 |0,_=>⟨fun k _ hk=>by omega,fun j hj _=>by simp[CV,List.getD_eq_getElem?_getD,hj]⟩
 |m+1,hm=>by
  obtain⟨i1,i2⟩:=QI h m (by omega)
  by_cases c:m=0
  ·subst c
   refine⟨fun k a b=>by omega,fun j hj _=>?_⟩
   simp only[CV,if_true]
   exact i2 j hj fun k a b=>by omega
  ·simp only[CV,if_neg c]
   have bm:=nX h (i:=m) (by omega)
   refine⟨fun k a b=>?_,fun j hj hk=>?_⟩
   ·by_cases e:k=m
    ·subst e;rw[jl (by rw[xM];omega)]
    ·have bk:=nX h (i:=k) (by omega)
     rw[getD_set_ne (fun q=>e (lM h.1 (by omega) (by omega) (by omega))),i1 k a (by omega)]
   ·rw[getD_set_ne (fun q=>hk m (by omega) (by omega) (by omega)),i2 j hj fun k a b=>hk k a (by omega)]
theorem P5 {n:Nat} {xs:List Int} (h:Lu n xs):∀ m,m≤xs.length→
  (∀ j,j<n→(∀ k,k+1<m→xs.getD k 0≠j)→(Bj n xs m).getD j 0=-1)
 |0,_=>fun j hj _=>by simp[Bj,List.getD_eq_getElem?_getD,hj]
 |m+1,hm=>by
  have i2:=P5 h m (by omega)
  by_cases c:m=0
  ·subst c
   intro j hj _
   simp only[Bj,if_true]
   exact i2 j hj fun k b=>by omega
  ·simp only[Bj,if_neg c]
   have bm:=nX h (i:=m - 1) (by omega)
   intro j hj hk
   rw[getD_set_ne (fun q=>hk (m - 1) (by omega) (by omega)),i2 j hj fun k b=>hk k (by omega)]
theorem SE {ps nx:List Int} {h t:Int} (e:vJ ps nx h t=0):1≤ps.length∧ps.length≤16∧nx.length=ps.length∧GY nx h=true∧
  ps=CV ps.length (dN nx h) (dN nx h).length∧nx=Bj ps.length (dN nx h) (dN nx h).length∧h=Wn (dN nx h) (dN nx h).length∧t=Ll (dN nx h) (dN nx h).length:=by
 unfold vJ at e;split at e
 next c=>
  obtain⟨c1,c2,c3,c4,c5⟩:=c
  simp only[Xr,Bg,ND,Bool.and_eq_true,decide_eq_true_eq] at c5
  exact⟨c1,c2,c3,c4,c5⟩
 next=>cases e
theorem yh {l t:List Int} {k:Nat} (h:k<l.length):(l ++ t).getD k 0=l.getD k 0:=by
 rw[List.getD_eq_getElem?_getD,List.getElem?_append_left h,←List.getD_eq_getElem?_getD]
theorem I8 {l t:List Int} {x:Int}:(l ++ x::t).getD l.length 0=x:=by
 rw[List.getD_eq_getElem?_getD,List.getElem?_append_right (Nat.le_refl _)];simp
theorem Ai {ps nx:List Int} (hn:nx.length=ps.length):∀ (d:Nat) (i:Int) (ys:List Bool) (l l':List Int),qm nx.length ys l→chain nx d i l=some l'→
  (∀ k,k<l'.length→ps.getD (l'.getD k 0).toNat 0=if k=0 then -1 else l'.getD (k - 1) 0)→
  ∃ ys',lV ps nx d (Ll l l.length) i ys=some (Ll l' l'.length,ys')∧qm nx.length ys' l'
 |0,_,_,_,_,_,h,_=>by cases h
 |d+1,i,ys,l,l',hs,h,hp=>by
  simp only[chain] at h
  simp only[lV]
  by_cases c1:i=-1
  ·rw[if_pos c1] at h ⊢
   simp only[Option.some.injEq] at h;subst h
   exact⟨ys,rfl,hs⟩
  ·rw[if_neg c1] at h ⊢
   split at h
   ·cases h
   next c2=>
    have h0:0≤i:=by omega
    have h1:i<(nx.length:Int):=by omega
    have hm:i∉l:=fun hm=>c2 (.inr (.inr hm))
    obtain⟨t,e⟩:=pK h
    rw[List.append_assoc,List.singleton_append] at e
    have hy:ys.getD i.toNat false=false:=by
     rw[hs.2 i.toNat (by omega),show((i.toNat:Nat):Int)=i by omega];simpa using hm
    have hq:ps.getD i.toNat 0=Ll l l.length:=by
     have:=hp l.length (by rw[e];simp)
     rw[e,I8] at this
     rw[this]
     unfold Ll
     split
     ·rfl
     next c=>rw[yh (by omega)]
    rw[if_neg (by rw[hy,hq];rintro(c | c | c | c)<;>first | omega | cases c | exact c rfl)]
    have:=Ai hn d _ _ _ _ (vw hs h0 h1) h hp
    have e2:Ll (l ++ [i]) (l ++ [i]).length=i:=by
     unfold Ll;rw[if_neg (by simp)]
     rw[show(l ++ [i]).length - 1=l.length by simp];exact I8
    rw[e2] at this;exact this
theorem ae4 {ps nx:List Int} {h t:Int} (e:vJ ps nx h t=0):Eg ps nx h t=0:=by
 obtain⟨c1,c2,c3,c4,e1,e2,e3,e4⟩:=SE e
 have ho:=ug c4
 rw[c3] at ho
 obtain⟨p1,p2⟩:=QI ho _ (Nat.le_refl _)
 have n2:=P5 ho _ (Nat.le_refl _)
 obtain⟨ys,w,hs⟩:=Ai c3 (nx.length+1) h (List.replicate nx.length false) [] (dN nx h) (vU _) (zf c4) fun k hk=>by
  by_cases k0:k=0
  ·subst k0
   rw[if_pos rfl,e1]
   have b:=nX ho hk
   exact p2 _ (by omega) fun k' a b' q=>by
    have:=lM ho.1 b' hk (by omega);omega
  ·rw[if_neg k0,e1]
   exact p1 k (by omega) hk
 unfold Eg
 rw[if_pos ⟨c1,c2,c3⟩]
 have w0:Ll [] ([]:List Int).length=-1:=rfl
 rw[w0,c3] at w
 rw[w]
 simp only
 rw[if_pos]
 refine⟨?_,e4⟩
 rw[dM]
 intro j _ hj
 have hj:j<ps.length:=by omega
 have h1:=hs.2 j (by omega)
 unfold D9
 by_cases m:(j:Int)∈dN nx h
 ·rw[h1];simp[m]
 ·have q1:ps.getD j 0=-1:=by
   rw[e1]
   exact p2 j hj fun k a b q=>m (by rw[←q,List.getD_eq_getElem?_getD,List.getElem?_eq_getElem b];exact List.getElem_mem b)
  have q2:nx.getD j 0=-1:=by
   rw[e2]
   exact n2 j hj fun k b q=>m (by
    have b':k<(dN nx h).length:=by omega
    rw[←q,List.getD_eq_getElem?_getD,List.getElem?_eq_getElem b'];exact List.getElem_mem b')
  rw[q1,q2];simp
end TableS
end

section
namespace TableS
open Go Go.Dam Go.Proofs
set_option maxRecDepth 1000000
def Seg (nx:List Int):Int→List Int→Int→Prop
 |i,[],m=>i=m
 |i,x::l,m=>i=x∧(0≤x∧x<(nx.length:Int))∧Seg nx (nx.getD x.toNat 0) l m
theorem tY {nx:List Int}:∀ {A:List Int} {i m:Int},Seg nx i A m→∀ x∈A,0≤x∧x<(nx.length:Int)
 |[],_,_,_=>by simp
 |y::A,i,m,⟨_,b,c⟩=>fun x hx=>by
  rcases List.mem_cons.1 hx with e | e
  ·subst e;exact b
  ·exact tY c x e
theorem IB {nx:List Int}:∀ {d:Nat} {i:Int} {t l:List Int},Seg nx i t (-1)→(l ++ t).Nodup→t.length<d→chain nx d i l=some (l ++ t)
 |0,_,_,_,_,_,h=>by omega
 |d+1,i,[],l,h,_,_=>by
  simp only[chain];rw[if_pos (show i=-1 from h),List.append_nil]
 |d+1,i,x::t,l,⟨a,b,s⟩,hn,hd=>by
  subst a
  simp only[chain]
  have hi:i∉l:=fun hm=>by
   rw[List.nodup_append] at hn
   exact hn.2.2 i hm i (by simp) rfl
  rw[if_neg (by omega),if_neg (by rintro(c | c | c)<;>first | omega | exact hi c)]
  rw[IB s (by rw[List.append_assoc];exact hn) (by simp only[List.length_cons] at hd;omega),List.append_assoc];rfl
theorem BI {nx:List Int} {f:Int} {t:List Int} (h:Seg nx f t (-1)) (ho:Lu nx.length t):dN nx f=t∧GY nx f=true:=by
 have:=IB (l:=[]) h ho.1 (d:=nx.length+1) (by have:=x9 ho;omega)
 unfold dN GY;rw[this];exact⟨rfl,rfl⟩
def Ar (nx:List Int) (us:List Bool) (f:Int) (F:List Int):Prop:=
 1≤nx.length∧nx.length≤16∧us.length=nx.length∧F.Nodup∧Seg nx f F (-1)∧∀ i,i<nx.length→us.getD i false=!decide ((i:Int)∈F)∧(us.getD i false=true→nx.getD i 0=-1)
theorem aeO {nx:List Int} {us:List Bool} {f:Int} {F:List Int} (h:Ar nx us f F):Lu nx.length F:=⟨h.2.2.2.1,tY h.2.2.2.2.1⟩
theorem adU {nx:List Int} {us:List Bool} {f:Int} {F:List Int} (h:Ar nx us f F):wJ nx us f=0:=by
 obtain⟨e1,e2⟩:=BI h.2.2.2.2.1 (aeO h)
 obtain⟨c1,c2,c3,c4,c5,c6⟩:=h
 unfold wJ
 rw[if_pos ⟨c1,c2,c3,e2⟩,if_pos]
 rw[dM]
 intro j _ hj
 obtain⟨g1,g2⟩:=c6 j (by omega)
 unfold pO inB
 rw[e1]
 cases u:us.getD j false with
 |true=>
  rw[u] at g1 g2
  rw[g2 rfl]
  have:decide ((j:Int)∈F)=false:=by cases d:decide ((j:Int)∈F)<;>simp[d] at g1 ⊢
  rw[this];rfl
 |false=>
  rw[u] at g1
  have:decide ((j:Int)∈F)=true:=by cases d:decide ((j:Int)∈F)<;>simp[d] at g1 ⊢
  rw[this];rfl
theorem Ic {nx:List Int} {us:List Bool}:∀ {d:Nat} {i:Int} {ys ys':List Bool} {l:List Int},Iu nx.length us ys l→qC nx d i ys=some ys'→
  (l.Nodup)→∃ t,Seg nx i t (-1)∧(l ++ t).Nodup∧(∀ x∈t,us.getD x.toNat false=false)∧Iu nx.length us ys' (l ++ t)
 |0,_,_,_,_,_,h,_=>by cases h
 |d+1,i,ys,ys',l,hs,h,hn=>by
  simp only[qC] at h
  split at h
  next c=>simp only[Option.some.injEq] at h;subst h;exact⟨[],c,by simpa using hn,by simp,by simpa using hs⟩
  next c=>
   split at h
   ·cases h
   next c2=>
    have i0:0≤i:=by omega
    have i1:i<(nx.length:Int):=by omega
    have hy:ys.getD i.toNat false=false:=by
     cases y:ys.getD i.toNat false with
     |false=>rfl
     |true=>exact absurd (.inr (.inr y)) c2
    have hq:=hs.2 i.toNat (by omega)
    rw[hy,show((i.toNat:Nat):Int)=i by omega] at hq
    have hq2:=hq.symm
    rw[Bool.or_eq_false_iff,decide_eq_false_iff_not] at hq2
    have hn2:(l ++ [i]).Nodup:=by
     rw[List.nodup_append]
     exact⟨hn,by simp,fun a ha b hb e=>by simp at hb;subst hb;subst e;exact hq2.2 ha⟩
    obtain⟨t,s1,s2,s3,s4⟩:=Ic (Je hs i0 i1) h hn2
    rw[List.append_assoc] at s2 s4
    refine⟨i::t,⟨rfl,⟨i0,i1⟩,s1⟩,s2,fun x hx=>?_,s4⟩
    rcases List.mem_cons.1 hx with e | e
    ·subst e;exact hq2.1
    ·exact s3 x e
theorem afG {nx:List Int} {us:List Bool} {f:Int} (h:OZ nx us f=0):∃ F,Ar nx us f F:=by
 unfold OZ at h;split at h
 next c=>
  obtain⟨c1,c2,c3⟩:=c
  split at h
  next ys w=>
   split at h
   next g=>
    obtain⟨t,s1,s2,s3,s4⟩:=Ic (us:=us) (l:=[]) ⟨by omega,fun j hj=>by simp⟩ w (by simp)
    rw[List.nil_append] at s2 s4
    refine⟨t,c1,c2,c3,s2,s1,fun i hi=>?_⟩
    have g1:=(dM _ _).1 g i (by omega) (by omega)
    have g2:=s4.2 i hi
    unfold Ed at g1
    rw[Bool.or_eq_false_iff] at g1
    have g3:ys.getD i false=true:=by simpa using g1.1
    rw[g3] at g2
    constructor
    ·cases u:us.getD i false with
     |false=>
      rw[u,Bool.false_or] at g2
      rw[←g2];rfl
     |true=>
      have:(i:Int)∉t:=fun hm=>by
       have:=s3 _ hm
       rw[show((i:Int).toNat)=i by omega,u] at this;cases this
      simp[this]
    ·intro u
     have:=g1.2
     rw[u,Bool.true_and] at this
     simpa using this
   next=>cases h
  next=>cases h
 next=>cases h
def Back (ps:List Int):Int→List Int→Prop
 |_,[]=>True
 |la,x::l=>ps.getD x.toNat 0=la∧Back ps x l
def EF (la:Int):List Int→Int
 |[]=>la
 |x::l=>EF x l
def Or (ps no:List Int) (h t:Int) (L:List Int):Prop:=
 1≤ps.length∧ps.length≤16∧no.length=ps.length∧L.Nodup∧Seg no h L (-1)∧Back ps (-1) L∧t=EF (-1) L∧∀ i,i<ps.length→(i:Int)∉L→ps.getD i 0=-1∧no.getD i 0=-1
theorem Fe {ps no:List Int} {h t:Int} {L:List Int} (o:Or ps no h t L):Lu no.length L:=⟨o.2.2.2.1,tY o.2.2.2.2.1⟩
theorem L6 {ps nx:List Int} (hn:nx.length=ps.length):∀ {d:Nat} {la i:Int} {ys:List Bool} {q:Int×List Bool} {l:List Int},qm nx.length ys l→lV ps nx d la i ys=some q→l.Nodup→
  ∃ t,Seg nx i t (-1)∧(l ++ t).Nodup∧Back ps la t∧q.1=EF la t∧qm nx.length q.2 (l ++ t)
 |0,_,_,_,_,_,_,h,_=>by cases h
 |d+1,la,i,ys,q,l,hs,h,hd=>by
  simp only[lV] at h
  split at h
  next c=>simp only[Option.some.injEq] at h;subst h;exact⟨[],c,by simpa using hd,trivial,rfl,by simpa using hs⟩
  next c=>
   split at h
   ·cases h
   next c2=>
    have i0:0≤i:=by omega
    have i1:i<(nx.length:Int):=by omega
    have hy:ys.getD i.toNat false=false:=by
     cases y:ys.getD i.toNat false with
     |false=>rfl
     |true=>exact absurd (.inr (.inr (.inl y))) c2
    have hp:ps.getD i.toNat 0=la:=Classical.byContradiction fun n=>c2 (.inr (.inr (.inr n)))
    have hq:=hs.2 i.toNat (by omega)
    rw[hy,show((i.toNat:Nat):Int)=i by omega] at hq
    have hq2:=hq.symm
    rw[decide_eq_false_iff_not] at hq2
    have hn2:(l ++ [i]).Nodup:=by
     rw[List.nodup_append]
     exact⟨hd,by simp,fun a ha b hb e=>by simp at hb;subst hb;subst e;exact hq2 ha⟩
    obtain⟨t,s1,s2,s3,s4,s5⟩:=L6 hn (vw hs i0 i1) h hn2
    rw[List.append_assoc] at s2 s5
    exact⟨i::t,⟨rfl,⟨i0,i1⟩,s1⟩,s2,⟨hp,s3⟩,s4,s5⟩
theorem adI {ps nx:List Int} {h t:Int} (e:Eg ps nx h t=0):∃ L,Or ps nx h t L:=by
 obtain⟨c1,c2,c3,la,ys,w,g,e2⟩:=JZ e
 rw[←c3] at w
 obtain⟨L,s1,s2,s3,s4,s5⟩:=L6 c3 (vU _) w (by simp)
 rw[List.nil_append] at s2 s5
 refine⟨L,c1,c2,c3,s2,s1,s3,by rw[e2];exact s4,fun i hi hm=>?_⟩
 have g1:=(dM _ _).1 g i (by omega) (by omega)
 have g2:=s5.2 i (by omega)
 rw[decide_eq_false hm] at g2
 simp only at g2
 unfold D9 at g1
 rw[g2] at g1
 simpa using g1
theorem SG {n:Nat} {xs:List Int} (h:Lu n xs):∀ m,m≤xs.length→∀ k,k+1<m→(Bj n xs m).getD (xs.getD k 0).toNat 0=xs.getD (k+1) 0
 |0,_=>fun k hk=>by omega
 |m+1,hm=>fun k hk=>by
  have i2:=SG h m (by omega)
  have c:m≠0:=by omega
  simp only[Bj,if_neg c]
  have bm:=nX h (i:=m - 1) (by omega)
  have bk:=nX h (i:=k) (by omega)
  by_cases e:k=m - 1
  ·subst e
   rw[jl (by rw[xX];omega),show m - 1+1=m by omega]
  ·rw[getD_set_ne (fun q=>e (lM h.1 (by omega) (by omega) (by omega))),i2 k (by omega)]
theorem SC {nx:List Int}:∀ {L:List Int} {i:Int},Seg nx i L (-1)→(i=if L.length=0 then -1 else L.getD 0 0)∧∀ k,k<L.length→nx.getD (L.getD k 0).toNat 0=if k+1<L.length then L.getD (k+1) 0 else -1
 |[],i,h=>⟨h,fun k hk=>by simp at hk⟩
 |x::L,i,⟨a,b,s⟩=>by
  obtain⟨g1,g2⟩:=SC s
  refine⟨by simp[a],fun k hk=>?_⟩
  cases k with
  |zero=>
   rw[show(x::L).getD 0 0=x from rfl,g1]
   cases L<;>simp
  |succ k=>
   have:=g2 k (by simpa using hk)
   rw[show(x::L).getD (k+1) 0=L.getD k 0 from rfl,this]
   simp
theorem Oe {ps:List Int}:∀ {L:List Int} {la:Int},Back ps la L→∀ k,k<L.length→ps.getD (L.getD k 0).toNat 0=if k=0 then la else L.getD (k - 1) 0
 |[],_,_=>fun k hk=>by simp at hk
 |x::L,la,⟨a,b⟩=>fun k hk=>by
  cases k with
  |zero=>exact a
  |succ k=>
   have:=Oe b k (by simpa using hk)
   rw[show(x::L).getD (k+1) 0=L.getD k 0 from rfl,this]
   cases k<;>simp
theorem DX:∀ {L:List Int} {la:Int},EF la L=if L.length=0 then la else L.getD (L.length - 1) 0
 |[],_=>rfl
 |x::L,la=>by
  simp only[EF]
  rw[DX]
  cases L<;>simp
theorem OT {a b:List Int} (hl:a.length=b.length) (h:∀ j,j<a.length→a.getD j 0=b.getD j 0):a=b:=by
 apply List.ext_getElem hl
 intro j h1 h2
 have:=h j h1
 rwa[List.getD_eq_getElem?_getD,List.getD_eq_getElem?_getD,List.getElem?_eq_getElem h1,List.getElem?_eq_getElem h2] at this
theorem MS {L:List Int} {x:Int} (h:x∈L):∃ k,k<L.length∧L.getD k 0=x:=by
 obtain⟨k,hk,e⟩:=List.getElem_of_mem h
 exact⟨k,hk,by rw[List.getD_eq_getElem?_getD,List.getElem?_eq_getElem hk];exact e⟩
theorem getD_mem {L:List Int} {k:Nat} (h:k<L.length):L.getD k 0∈L:=by
 rw[List.getD_eq_getElem?_getD,List.getElem?_eq_getElem h];exact List.getElem_mem h
theorem aim {ps no:List Int} {h t:Int} {L:List Int} (o:Or ps no h t L):ps=CV ps.length L L.length∧no=Bj ps.length L L.length∧h=Wn L L.length∧t=Ll L L.length:=by
 have ho:=Fe o
 obtain⟨c1,c2,c3,c4,c5,c6,c7,c8⟩:=o
 rw[c3] at ho
 obtain⟨p1,p2⟩:=QI ho _ (Nat.le_refl _)
 have n1:=SG ho _ (Nat.le_refl _)
 have n2:=P5 ho _ (Nat.le_refl _)
 have bg:=Oe c6
 obtain⟨sh,sg⟩:=SC c5
 refine⟨OT (by rw[xM]) fun j hj=>?_,OT (by rw[xX];exact c3) fun j hj=>?_,?_,?_⟩
 ·by_cases m:(j:Int)∈L
  ·obtain⟨k,hk,e⟩:=MS m
   have b:=bg k hk
   rw[e,show(j:Int).toNat=j by omega] at b
   rw[b]
   by_cases k0:k=0
   ·subst k0
    rw[if_pos rfl]
    symm;exact p2 j hj fun k' a b' q=>by
     have:=lM ho.1 b' hk (by omega);omega
   ·rw[if_neg k0]
    have:=p1 k (by omega) hk
    rw[e,show(j:Int).toNat=j by omega] at this
    exact this.symm
  ·rw[(c8 j hj m).1]
   symm;exact p2 j hj fun k' a b' q=>m (by rw[←q];exact getD_mem b')
 ·rw[c3] at hj
  by_cases m:(j:Int)∈L
  ·obtain⟨k,hk,e⟩:=MS m
   have b:=sg k hk
   rw[e,show(j:Int).toNat=j by omega] at b
   rw[b]
   by_cases k1:k+1<L.length
   ·rw[if_pos k1]
    have:=n1 k k1
    rw[e,show(j:Int).toNat=j by omega] at this
    exact this.symm
   ·rw[if_neg k1]
    symm;exact n2 j hj fun k' a q=>by
     have:=lM ho.1 (by omega) hk (show L.getD k' 0=L.getD k 0 by omega);omega
  ·rw[(c8 j hj m).2]
   symm;exact n2 j hj fun k' a q=>m (by rw[←q];exact getD_mem (by omega))
 ·unfold Wn;exact sh
 ·unfold Ll;rw[c7];exact DX
theorem agm {ps no:List Int} {h t:Int} {L:List Int} (o:Or ps no h t L):vJ ps no h t=0:=by
 obtain⟨e1,e2,e3,e4⟩:=aim o
 obtain⟨g1,g2⟩:=BI o.2.2.2.2.1 (Fe o)
 have b:=Fe o
 obtain⟨c1,c2,c3,_⟩:=o
 unfold vJ
 rw[if_pos]
 refine⟨c1,c2,c3,g2,?_⟩
 unfold Xr Bg ND
 rw[g1,←e1,←e2,←e3,←e4]
 simp
end TableS
end

section
namespace TableS
open Go Go.Dam Go.Proofs
set_option maxRecDepth 1000000
def awC:List D→Option (D×List Prop)
 |[.agg [.rc [.ints .i64 nx], .rc [.bools us], .v (.int .i64 f)]]=>some ((.agg [oi nx,ob us,i64 f]),[nx.length≤200∧us.length≤200])
 |_=>none
def lwC:List D→Option (D×List Prop)
 |[.agg [.rc [.ints .i64 ps], .rc [.ints .i64 nx], .v (.int .i64 h), .v (.int .i64 t)]]=>some ((.agg [oi ps,oi nx,i64 h,i64 t]),[ps.length≤200∧nx.length≤200])
 |_=>none
def X12:aB:=X11
theorem ajq:bG Try.prog X12:=ajt
end TableS
end

section
namespace TableS
open Go Go.Dam Go.Proofs
set_option maxRecDepth 1000000
def tkO (nx:List Int) (us:List Bool) (f:Int):Prop:=OZ nx us f=0∧f≠-1
instance (nx:List Int) (us:List Bool) (f:Int):Decidable (tkO nx us f):=by unfold tkO;exact inferInstance
def gvO (nx:List Int) (us:List Bool) (f p:Int):Prop:=OZ nx us f=0∧0≤p∧p<(nx.length:Int)∧us.getD p.toNat false=true
instance (nx:List Int) (us:List Bool) (f p:Int):Decidable (gvO nx us f p):=by unfold gvO;exact inferInstance
end TableS
end

section
namespace TableS
open Go Go.Dam Go.Proofs
set_option maxRecDepth 1000000
def rmO (ps no:List Int) (h t p:Int):Prop:=Eg ps no h t=0∧(0≤p∧p<(ps.length:Int))∧(h=p∨ps.getD p.toNat 0≠-1)
instance (ps no:List Int) (h t p:Int):Decidable (rmO ps no h t p):=by unfold rmO;exact inferInstance
end TableS
end

section
namespace TableS
open Go Go.Dam Go.Proofs
set_option maxRecDepth 1000000
def toO (ps no:List Int) (h t p:Int):Prop:=Eg ps no h t=0∧0≤p∧p<(ps.length:Int)
instance (ps no:List Int) (h t p:Int):Decidable (toO ps no h t p):=by unfold toO;exact inferInstance
end TableS
end

section
namespace TableS
open Go Go.Dam Go.Proofs
set_option maxRecDepth 1000000
def X13:aB:=X12
theorem ajm:bG Try.prog X13:=ajq
end TableS
end

section
namespace TableS
open Go Go.Dam Go.Proofs
set_option maxRecDepth 1000000
def ppO (kx px:List Int) (ux:List Bool) (k p:Int):Prop:=BR kx px ux=0∧(0≤p∧p<16)∧ux.getD (oP kx ux k) false=false∧iL kx.length ux<12
instance (kx px:List Int) (ux:List Bool) (k p:Int):Decidable (ppO kx px ux k p):=by unfold ppO;exact inferInstance
end TableS
end

section
namespace TableS
open Go Go.Dam Go.Proofs
set_option maxRecDepth 1000000
structure Dp where
 i:Nat
 j:Nat
 kx:List Int
 px:List Int
 ux:List Bool
def dpO (kx px:List Int) (ux:List Bool) (k:Int):Prop:=BR kx px ux=0∧ux.getD (oP kx ux k) false=true
instance (kx px:List Int) (ux:List Bool) (k:Int):Decidable (dpO kx px ux k):=by unfold dpO;exact inferInstance
end TableS
end

section
namespace TableS
open Go Go.Dam Go.Proofs
set_option maxRecDepth 1000000
end TableS
end

section
namespace TableS
open Go Go.Dam Go.Proofs
set_option maxRecDepth 1000000
theorem aau {kx px:List Int} {ux:List Bool} (h:yJ kx px ux=0):kx.length=16∧iL 16 ux≤12∧∀ i,i<16→nD kx px ux i=false:=by
 unfold yJ at h;split at h
 next c=>
  split at h
  next d=>exact⟨c.1,c.2,fun i hi=>(dM 16 0).1 d i (by omega) (by omega)⟩
  next=>cases h
 next=>cases h
theorem H6 {ux:List Bool} {i:Nat}:∀ (D k d:Nat),k<16→d<D→(k+d)%16=i→(∀ t,t<d→(k+t)%16≠i)→qO ux i D k=false→∀ t,t<d→ux.getD ((k+t)%16) false=true
 |0,k,d,_,h,_,_,_=>by omega
 |D+1,k,d,hk,hd,he,hm,hg=>fun t ht=>by
  have hki:k≠i:=fun e=>by have:=hm 0 (by omega);rw[Nat.add_zero,Nat.mod_eq_of_lt hk] at this;exact this e
  simp only[qO,if_neg hki] at hg
  split at hg
  ·cases hg
  next hu=>
   rcases t with _ | t
   ·rw[Nat.add_zero,Nat.mod_eq_of_lt hk];simpa using hu
   ·have:=H6 D ((k+1)%16) (d - 1) (by omega) (by omega) (by omega) (fun t' ht'=>by have:=hm (t'+1) (by omega);rwa[show((k+1)%16+t')%16=(k+(t'+1))%16 by omega]) hg t (by omega)
    rwa[show((k+1)%16+t)%16=(k+(t+1))%16 by omega] at this
theorem Yd {kx px:List Int} {ux:List Bool} (ho:okI kx) (h:yJ kx px ux=0):BR kx px ux=0:=by
 obtain⟨c1,c2,c3⟩:=aau h
 have hfree:=lY (ux:=ux) (n:=16) (by omega)
 have hus:∀ i,i<16→ux.getD i false=true→0≤px.getD i 0∧px.getD i 0<16∧atN kx ux (kx.getD i 0)=i∧qO ux i 16 (dn (kx.getD i 0)).toNat=false:=fun i hi hu=>by
  have:=c3 i hi
  simp only[nD,hu,if_true,Bool.or_eq_false_iff,decide_eq_false_iff_not,not_or,ne_eq,Decidable.not_not] at this
  exact⟨by omega,by omega,this.1.2.2,this.2⟩
 unfold BR
 rw[if_pos ⟨c1,c2⟩,if_pos]
 rw[dM]
 intro i _ hi
 have hi:i<16:=by omega
 unfold qy
 split
 next hu=>
  obtain⟨p0,p1,p2,p3⟩:=hus i hi hu
  have hk:=ho.2 i (by omega)
  have hh:=mg hk
  obtain⟨s,s1,s2,s3,s4⟩:=xB (xs:=kx) hk hfree
  have hgap:=H6 (ux:=ux) (i:=i) 16 (dn (kx.getD i 0)).toNat ((i+16 - (dn (kx.getD i 0)).toNat)%16) (by omega) (by omega) (by omega) (fun t ht=>by omega) p3
  have hle:s≤(i+16 - (dn (kx.getD i 0)).toNat)%16:=by
   rcases Nat.lt_or_ge ((i+16 - (dn (kx.getD i 0)).toNat)%16) s with c | c
   ·have:=(s3 _ c).2
    rw[show((dn (kx.getD i 0)).toNat+(i+16 - (dn (kx.getD i 0)).toNat)%16)%16=i by omega] at this
    exact absurd rfl this
   ·exact c
  have hlk:oP kx ux (kx.getD i 0)=i:=by
   rcases Nat.lt_or_eq_of_le hle with c | c
   ·have hu2:=hgap s c
    rw[←s2] at hu2
    have hl:=Qs (kx:=kx) ux hk
    have hkey:kx.getD (oP kx ux (kx.getD i 0)) 0=kx.getD i 0:=Decidable.not_not.1 fun n=>s4 ⟨hu2,n⟩
    have:=(hus _ hl hu2).2.2.1
    rw[hkey,p2] at this;omega
   ·rw[s2,c];omega
  rw[hlk]
  simp only[decide_eq_false_iff_not,not_or,ne_eq,Decidable.not_not]
  exact⟨by omega,by omega,trivial⟩
 next hu=>
  have:=c3 i hi
  simp only[nD,if_neg hu] at this
  exact this
theorem XV {T:Tb} (h:BG T=0):T.sz∧wJ T.nx T.us T.fr=0∧yJ T.kx T.px T.ux=0∧vJ T.ps T.no T.h T.t=0∧iL T.kx.length T.ux=(dN T.no T.h).length∧
  ∀ i:Nat,(i:Int)<T.n→nH T (dN T.no T.h) i=false:=by
 unfold BG at h;split at h
 next c=>
  split at h
  next d=>exact⟨c.1,c.2.1,c.2.2.1,c.2.2.2.1,c.2.2.2.2,fun i hi=>(dM _ 0).1 d i (by omega) (by have:=c.1.1;omega)⟩
  next=>cases h
 next=>cases h
theorem Tc {q:Nat→Bool}:∀ {n:Nat},0<cnt q n→∃ j,j<n∧q j=true
 |0,h=>by simp[cnt] at h
 |n+1,h=>by
  cases e:q n with
  |true=>exact⟨n,by omega,e⟩
  |false=>
   simp only[cnt,e,cond_false,Nat.add_zero] at h
   obtain⟨j,a,b⟩:=Tc h
   exact⟨j,by omega,b⟩
theorem abT {T:Tb} (ho:uK T) (h:BG T=0) {i:Nat} (hi:(i:Int)<T.n) (hu:T.us.getD i false=true):
  U4 T.kx T.px T.ux (T.ks.getD i 0)=0∧U3 T.kx T.px T.ux (T.ks.getD i 0)=i:=by
 obtain⟨⟨s1,s2,s3,s4,s5,s6⟩,a1,a2,a3,a4,a5⟩:=XV h
 have hp:=Yd ho.1 a2
 obtain⟨b1,b2,b3⟩:=JC hp
 have hb:=a5 i hi
 simp only[nH,Bool.or_eq_false_iff,hu,Bool.not_eq_false'] at hb
 obtain⟨_,c1,c2,_⟩:=hb
 have c1:Gu T.kx.length T.px T.ux i=1:=by
  have:decide (Gu T.kx.length T.px T.ux i=1)=true:=by
   cases e:decide (Gu T.kx.length T.px T.ux i=1) with
   |true=>rfl
   |false=>rw[e] at c1;cases c1
  exact of_decide_eq_true this
 obtain⟨j,hj,hq⟩:=Tc (q:=Lj T.px T.ux i) (n:=T.kx.length) (by unfold Gu at c1;omega)
 simp only[Lj,Bool.and_eq_true,beq_iff_eq] at hq
 have hks:T.kx.getD j 0=T.ks.getD i 0:=by
  have:=FP.1 c2 j hj
  have hq':Lj T.px T.ux i j=true:=by simp only[Lj,Bool.and_eq_true,beq_iff_eq];exact hq
  rw[hq'] at this
  simpa using this
 have hpc:=b3 j (by omega)
 simp only[qy,hq.1,if_true,decide_eq_false_iff_not,not_or,ne_eq,Decidable.not_not] at hpc
 rw[←hks]
 unfold U4 U3
 rw[if_pos hp,if_pos hp,hpc.2.2,if_pos hq.1,if_pos hq.1]
 exact⟨rfl,hq.2⟩
theorem Au {l:List Int} (h:l.Nodup) (h0:∀ x∈l,0≤x):(l.map Int.toNat).Nodup:=tu h fun x hx y hy e=>by
 have:=h0 x hx;have:=h0 y hy;omega
theorem afN {T:Tb} (ho:uK T) (h:BG T=0):nO T=0:=by
 obtain⟨hs,a1,a2,a3,a4,a5⟩:=XV h
 have hs':=hs
 obtain⟨s1,s2,s3,s4,s5,s6⟩:=hs'
 have hak:=afz a1
 have hpc:=Yd ho.1 a2
 have hlc:=ae4 a3
 have hun:=Jw hak
 obtain⟨_,_,c3,c4,_⟩:=SE a3
 have hl:=ug c4
 have hll:qG T.ps T.no T.h T.t=dN T.no T.h:=by unfold qG;rw[if_pos hlc]
 unfold nO
 rw[if_pos ⟨hs,hak,hpc,hlc⟩,hll,if_pos]
 refine⟨?_,?_⟩
 ·rw[dM]
  intro i _ hi
  have hi':(i:Int)<T.n:=by omega
  have hb:=a5 i hi'
  simp only[nH,Bool.or_eq_false_iff] at hb
  obtain⟨d1,d2,d3,d4⟩:=hb
  simp only[nI,d1,Bool.false_or]
  split
  next hu=>
   rw[if_pos hu,decide_eq_false_iff_not] at d4
   obtain⟨e1,e2⟩:=abT ho h hi' hu
   rw[decide_eq_false_iff_not,e1,e2]
   rintro(q | q | q)
   ·exact q rfl
   ·exact q rfl
   ·exact d4 q
  next hu=>rw[if_neg hu] at d4;exact d4
 ·rw[a4,lQ]
  have hin:∀ i,i<T.us.length→T.us.getD i false=inB (dN T.no T.h) i:=fun i hi=>by
   have hb:=a5 i (by omega)
   simp only[nH,Bool.or_eq_false_iff,Bool.not_eq_false',beq_iff_eq] at hb
   exact hb.1
  apply Nat.le_antisymm
  ·have:=oh (L:=(List.range T.us.length).filter fun i=>T.us.getD i false) (M:=(dN T.no T.h).map Int.toNat) (List.nodup_range.sublist List.filter_sublist) (fun x hx=>by
    rw[List.mem_filter,List.mem_range] at hx
    have hq:=hx.2
    rw[hin x hx.1] at hq
    exact List.mem_map.2 ⟨(x:Int),of_decide_eq_true hq,by omega⟩)
   rwa[List.length_map] at this
  ·have:=oh (L:=(dN T.no T.h).map Int.toNat) (M:=(List.range T.us.length).filter fun i=>T.us.getD i false) (Au hl.1 fun x hx=>(hl.2 x hx).1) (fun x hx=>by
    obtain⟨y,hy,rfl⟩:=List.mem_map.1 hx
    have hb:=hl.2 y hy
    have hlt:y.toNat<T.us.length:=by omega
    rw[List.mem_filter,List.mem_range]
    refine⟨hlt,?_⟩
    rw[hin _ hlt,show((y.toNat:Nat):Int)=y by omega]
    exact decide_eq_true hy)
   rwa[List.length_map] at this
end TableS
end

section
namespace TableS
open Go Go.Dam Go.Proofs
set_option maxRecDepth 1000000
def ds (a b:Nat):Nat:=(b+16 - a)%16
def hmN (k:Int):Nat:=(dn k).toNat
theorem Qm {k:Int} (h:vk k):hmN k<16:=by
 have:=mg h;unfold hmN;omega
def Ce (kx px:List Int) (ux:List Bool) (m q:Int):Prop:=∃ i,i<16∧ux.getD i false=true∧kx.getD i 0=m∧px.getD i 0=q
def Pa (kx:List Int) (ux:List Bool) (i:Nat):Prop:=∀ t,t<ds (hmN (kx.getD i 0)) i→ux.getD ((hmN (kx.getD i 0)+t)%16) false=true
def Ix (kx px:List Int) (ux:List Bool):Prop:=
 (kx.length=16∧px.length=16∧ux.length=16)∧iL 16 ux≤12∧(∀ i,i<16→vk (kx.getD i 0))∧
 (∀ i,i<16→ux.getD i false=false→kx.getD i 0=0∧px.getD i 0=0)∧
 (∀ i,i<16→ux.getD i false=true→0≤px.getD i 0∧px.getD i 0<16)∧
 (∀ i j,i<16→j<16→ux.getD i false=true→ux.getD j false=true→kx.getD i 0=kx.getD j 0→i=j)∧
 (∀ i,i<16→ux.getD i false=true→Pa kx ux i)
theorem aa3 {kx px:List Int} {ux:List Bool} (x:Ix kx px ux):∃ j,j<16∧ux.getD j false=false:=lY (by have:=x.2.1;omega)
theorem aai {kx px:List Int} {ux:List Bool} (x:Ix kx px ux) {k:Int} (hk:vk k):
  oP kx ux k<16∧(∀ t,t<ds (hmN k) (oP kx ux k)→ux.getD ((hmN k+t)%16) false=true)∧
  ((ux.getD (oP kx ux k) false=true∧kx.getD (oP kx ux k) 0=k)∨(ux.getD (oP kx ux k) false=false∧∀ i,i<16→ux.getD i false=true→kx.getD i 0≠k)):=by
 obtain⟨s,h1,h2,h3,h4⟩:=xB (xs:=kx) hk (aa3 x)
 have hh:=Qm hk
 have hs:ds (hmN k) (oP kx ux k)=s:=by
  unfold ds;rw[h2];unfold hmN at hh ⊢;omega
 refine⟨by rw[h2];omega,fun t ht=>(h3 t (by omega)).1,?_⟩
 by_cases u:ux.getD (oP kx ux k) false=true
 ·exact .inl ⟨u,Classical.byContradiction fun n=>h4 ⟨u,n⟩⟩
 ·rw[Bool.not_eq_true] at u
  refine .inr ⟨u,fun i hi ui e=>?_⟩
  have p:=x.2.2.2.2.2.2 i hi ui
  unfold Pa at p;rw[e] at p
  by_cases c:s<ds (hmN k) i
  ·have:=p s c
   unfold hmN at this;rw[←h2,u] at this;cases this
  ·by_cases c2:ds (hmN k) i=s
   ·have:oP kx ux k=i:=by
     rw[h2];unfold ds at c2;unfold hmN at c2 hh;omega
    rw[this,ui] at u;cases u
   ·have:=(h3 (ds (hmN k) i) (by omega)).2
    rw[show((dn k).toNat+ds (hmN k) i)%16=i by unfold ds hmN;unfold hmN at hh;omega] at this
    exact this e
theorem afE {kx px:List Int} {ux:List Bool} (ho:okI kx) (hc:ccS kx px ux) (h:BR kx px ux=0):Ix kx px ux:=by
 obtain⟨c1,c2,c3⟩:=JC h
 have hfree:=lY (ux:=ux) (n:=16) (by omega)
 have hin:∀ i,i<16→vk (kx.getD i 0):=fun i hi=>ho.2 i (by omega)
 have hat:∀ i,i<16→ux.getD i false=true→oP kx ux (kx.getD i 0)=i:=fun i hi u=>by
  have:=c3 i hi
  unfold qy at this;rw[if_pos u,decide_eq_false_iff_not] at this
  exact Classical.byContradiction fun n=>this (.inr (.inr n))
 refine⟨⟨c1,by have:=hc.2.1;omega,by have:=hc.2.2;omega⟩,c2,hin,fun i hi u=>?_,fun i hi u=>?_,fun i j hi hj ui uj e=>?_,fun i hi u=>?_⟩
 ·have:=c3 i hi
  unfold qy at this;rw[if_neg (by rw[u];simp),decide_eq_false_iff_not] at this
  exact⟨Classical.byContradiction fun n=>this (.inl n),Classical.byContradiction fun n=>this (.inr n)⟩
 ·have:=c3 i hi
  unfold qy at this;rw[if_pos u,decide_eq_false_iff_not] at this
  omega
 ·rw[←hat i hi ui,e,hat j hj uj]
 ·obtain⟨s,h1,h2,h3,_⟩:=xB (xs:=kx) (hin i hi) hfree
  rw[hat i hi u] at h2
  have hh:=Qm (hin i hi)
  intro t ht
  refine(h3 t ?_).1
  unfold ds at ht;unfold hmN at ht hh;omega
theorem SX {ux:List Bool} {i:Nat}:∀ (D k d:Nat),k<16→d<16→(k+d)%16=i→(∀ t,t<d→ux.getD ((k+t)%16) false=true)→qO ux i D k=false
 |0,_,_,_,_,_,_=>rfl
 |D+1,k,d,hk,hd,he,h=>by
  simp only[qO]
  split
  ·rfl
  next c=>
   have d0:d≠0:=fun q=>c (by subst q;rw[←he];omega)
   have:=h 0 (by omega)
   rw[Nat.add_zero,Nat.mod_eq_of_lt hk] at this
   rw[if_neg (by rw[this];simp)]
   exact SX D ((k+1)%16) (d - 1) (by omega) (by omega) (by omega) fun t ht=>by
    have:=h (t+1) (by omega)
    rwa[show((k+1)%16+t)%16=(k+(t+1))%16 by omega]
theorem afb {kx px:List Int} {ux:List Bool} (x:Ix kx px ux):yJ kx px ux=0:=by
 obtain⟨⟨c1,c2,c3⟩,c4,c5,c6,c7,c8,c9⟩:=x
 unfold yJ
 rw[if_pos ⟨c1,c4⟩,if_pos]
 rw[dM]
 intro i _ hi
 have hi:i<16:=by omega
 unfold nD
 by_cases u:ux.getD i false=true
 ·rw[if_pos u]
  have hh:=Qm (c5 i hi)
  have g:qO ux i 16 (dn (kx.getD i 0)).toNat=false:=SX 16 _ (ds (hmN (kx.getD i 0)) i) hh (by unfold ds;omega) (by unfold ds;unfold hmN at hh ⊢;omega) (c9 i hi u)
  have a:atN kx ux (kx.getD i 0)=i:=by
   unfold atN
   rw[c1]
   refine wK 16 0 i (by omega) (by omega) (by show(ux.getD i false && kx.getD i 0 ==kx.getD i 0)=true;rw[u];simp) fun j _ hj=>?_
   cases uj:ux.getD j false with
   |false=>rfl
   |true=>
    rw[Bool.true_and]
    have:¬ kx.getD j 0=kx.getD i 0:=fun e=>by have:=c8 j i (by omega) hi uj u e;omega
    simpa using this
  rw[g,a,Bool.or_false,decide_eq_false_iff_not]
  have:=c7 i hi u
  omega
 ·rw[if_neg u]
  obtain⟨a,b⟩:=c6 i hi (by simpa using u)
  rw[a,b];rfl
structure Mv (C:Int→Int→Prop) (R:Dp) (d:Nat):Prop where
 bi:R.i<16
 bj:R.j<16
 lk:R.kx.length=16
 lp:R.px.length=16
 lu:R.ux.length=16
 hu:R.ux.getD R.i false=true
 hf:R.ux.getD ((R.j+d)%16) false=false
 hd:1≤ds R.i R.j∧ds R.i R.j+d≤15
 kin:∀ m,m<16→vk (R.kx.getD m 0)
 zer:∀ m,m<16→R.ux.getD m false=false→R.kx.getD m 0=0∧R.px.getD m 0=0
 pin:∀ m,m<16→R.ux.getD m false=true→0≤R.px.getD m 0∧R.px.getD m 0<16
 one:∀ a b,a<16→b<16→a≠R.i→b≠R.i→R.ux.getD a false=true→R.ux.getD b false=true→R.kx.getD a 0=R.kx.getD b 0→a=b
 pa:∀ m,m<16→m≠R.i→R.ux.getD m false=true→Pa R.kx R.ux m∧(ds (hmN (R.kx.getD m 0)) R.i<ds (hmN (R.kx.getD m 0)) m→ds R.i R.j≤ds R.i m)
 ce:∀ m q,(∃ a,a<16∧a≠R.i∧R.ux.getD a false=true∧R.kx.getD a 0=m∧R.px.getD a 0=q)↔C m q
end TableS
end

section
namespace TableS
open Go Go.Dam Go.Proofs
set_option maxRecDepth 1000000
structure Inv (T:Tb) (L F:List Int):Prop where
 sz:T.sz
 ar:Ar T.nx T.us T.fr F
 od:Or T.ps T.no T.h T.t L
 ix:Ix T.kx T.px T.ux
 us:∀ i:Nat,(i:Int)<T.n→T.us.getD i false=decide ((i:Int)∈L)
 ce:∀ m q,Ce T.kx T.px T.ux m q↔∃ i:Nat,q=i∧(i:Int)<T.n∧T.us.getD i false=true∧T.ks.getD i 0=m
 bk:∀ i:Nat,(i:Int)<T.n→T.us.getD i false=true→bk6 T i=0
 zr:∀ i:Nat,(i:Int)<T.n→T.us.getD i false=false→T.ks.getD i 0=0∧z6 T i=true
theorem RQ {T:Tb} {L F:List Int} (v:Inv T L F) {x:Int} (h:x∈L):0≤x∧x<T.n∧T.us.getD x.toNat false=true:=by
 have r:=tY v.od.2.2.2.2.1 x h
 have l:=v.od.2.2.1
 obtain⟨_,_,_,_,_,s6⟩:=v.sz
 refine⟨r.1,by omega,?_⟩
 rw[v.us x.toNat (by omega),show((x.toNat:Nat):Int)=x by omega]
 simpa using h
theorem OO {T:Tb} {L F:List Int} (v:Inv T L F) {i:Nat} (hi:(i:Int)<T.n) (hu:T.us.getD i false=true):Ce T.kx T.px T.ux (T.ks.getD i 0) i:=(v.ce _ _).2 ⟨i,rfl,hi,hu,rfl⟩
theorem KR {T:Tb} (ho:uK T) (h:nO T=0):∃ L F,Inv T L F:=by
 obtain⟨h1,h2,h3,h4,h5,h6⟩:=Py h
 obtain⟨F,ar⟩:=afG h2
 obtain⟨L,od⟩:=adI h4
 have ix:=afE ho.1 ho.2.2.2.2.2.2.2.1 h3
 have hl:qG T.ps T.no T.h T.t=L:=by
  rw[(abl h).1];exact(BI od.2.2.2.2.1 (Fe od)).1
 rw[hl] at h5
 have ul:(T.us.length:Int)=T.n:=by have:=ar.2.2.1;have:=h1.2.2.2.2.1;omega
 have hus:∀ i:Nat,(i:Int)<T.n→T.us.getD i false=decide ((i:Int)∈L):=fun i hi=>by
  have:=h5 i (by omega)
  unfold nI at this
  rw[Bool.or_eq_false_iff] at this
  simpa [inB] using this.1
 have hks:∀ i:Nat,(i:Int)<T.n→vk (T.ks.getD i 0):=fun i hi=>ho.2.1 i (by have:=h1.2.2.1;omega)
 have hus2:∀ i:Nat,(i:Int)<T.n→T.us.getD i false=true→U4 T.kx T.px T.ux (T.ks.getD i 0)=0∧U3 T.kx T.px T.ux (T.ks.getD i 0)=i∧bk6 T i=0:=fun i hi u=>by
  have:=h5 i (by omega)
  unfold nI at this
  rw[Bool.or_eq_false_iff,if_pos u,decide_eq_false_iff_not] at this
  have t:=this.2
  exact⟨Classical.byContradiction fun n=>t (.inl n),Classical.byContradiction fun n=>t (.inr (.inl n)),Classical.byContradiction fun n=>t (.inr (.inr n))⟩
 refine⟨L,F,h1,ar,od,ix,hus,fun m q=>⟨?_,?_⟩,fun i hi u=>(hus2 i hi u).2.2,fun i hi u=>?_⟩
 ·rintro⟨j,hj,uj,e1,e2⟩
  obtain⟨i,a,b,c,d,_⟩:=Yu ho h hj uj
  exact⟨i,by rw[←e2];exact c,a,b,by rw[←d];exact e1⟩
 ·rintro⟨i,rfl,hi,u,e⟩
  obtain⟨g1,g2,_⟩:=hus2 i hi u
  rw[e] at g1 g2
  have hk:vk m:=by rw[←e];exact hks i hi
  obtain⟨a,_,⟨b,c⟩ | ⟨b,_⟩⟩:=aai ix hk
  ·unfold U3 at g2
   rw[if_pos h3,if_pos b] at g2
   exact⟨_,a,b,c,g2⟩
  ·unfold U4 at g1
   rw[if_pos h3,b] at g1
   simp at g1
 ·have:=h5 i (by omega)
  unfold nI at this
  rw[Bool.or_eq_false_iff,if_neg (by rw[u];simp),Bool.or_eq_false_iff] at this
  exact⟨by simpa using this.2.1,by simpa using this.2.2⟩
theorem Fg {q:Nat→Bool}:∀ {n:Nat},(∀ j,j<n→q j=false)→cnt q n=0
 |0,_=>rfl
 |n+1,h=>by simp only[cnt,h n (by omega),cond_false];rw[Nat.add_zero];exact Fg fun j hj=>h j (by omega)
theorem SH {q:Nat→Bool}:∀ {n i:Nat},i<n→q i=true→(∀ j,j<n→q j=true→j=i)→cnt q n=1
 |0,i,h,_,_=>by omega
 |n+1,i,h,hq,hn=>by
  by_cases e:i=n
  ·subst e
   simp only[cnt,hq,cond_true]
   rw[Fg fun j hj=>by
    cases c:q j with
    |false=>rfl
    |true=>have:=hn j (by omega) c;omega]
  ·have:q n=false:=by
    cases c:q n with
    |false=>rfl
    |true=>exact absurd (hn n (by omega) c).symm e
   simp only[cnt,this,cond_false]
   rw[SH (i:=i) (by omega) hq fun j hj c=>hn j (by omega) c]
theorem Ux {T:Tb} {L F:List Int} (v:Inv T L F):iL 16 T.ux=L.length:=by
 have hn:=v.od.2.2.2.1
 have e1:L.length=(L.map Int.toNat).length:=by simp
 have d2:=Au hn fun x hx=>(RQ v hx).1
 have bp:∀ j,j<16→T.ux.getD j false=true→∃ i:Nat,T.px.getD j 0=i∧(i:Int)<T.n∧T.us.getD i false=true∧T.ks.getD i 0=T.kx.getD j 0:=fun j hj uj=>(v.ce _ _).1 ⟨j,hj,uj,rfl,rfl⟩
 have d1:(((List.range 16).filter fun i=>T.ux.getD i false).map fun j=>(T.px.getD j 0).toNat).Nodup:=by
  refine tu (List.nodup_range.filter _) fun x hx y hy e=>?_
  rw[List.mem_filter,List.mem_range] at hx hy
  obtain⟨i,a,b,c,d⟩:=bp x hx.1 hx.2
  obtain⟨i',a',b',c',d'⟩:=bp y hy.1 hy.2
  have:i=i':=by omega
  subst this
  exact v.ix.2.2.2.2.2.1 x y hx.1 hy.1 hx.2 hy.2 (by rw[←d,d'])
 rw[lQ,e1]
 apply Nat.le_antisymm
 ·have:=oh d1 (M:=L.map Int.toNat) fun x hx=>by
   obtain⟨j,hj,e⟩:=List.mem_map.1 hx
   rw[List.mem_filter,List.mem_range] at hj
   obtain⟨i,a,b,c,d⟩:=bp j hj.1 hj.2
   rw[v.us i b] at c
   exact List.mem_map.2 ⟨i,by simpa using c,by omega⟩
  rwa[List.length_map] at this
 ·have:=oh d2 (M:=((List.range 16).filter fun i=>T.ux.getD i false).map fun j=>(T.px.getD j 0).toNat) fun x hx=>by
   obtain⟨y,hy,e⟩:=List.mem_map.1 hx
   obtain⟨a,b,c⟩:=RQ v hy
   obtain⟨j,hj,uj,_,e2⟩:=OO v (i:=y.toNat) (by omega) c
   exact List.mem_map.2 ⟨j,by rw[List.mem_filter,List.mem_range];exact⟨hj,uj⟩,by omega⟩
  simp only[List.length_map] at this ⊢;exact this
theorem aeG {T:Tb} {L F:List Int} (v:Inv T L F):BG T=0:=by
 have hc:=(BI v.od.2.2.2.2.1 (Fe v.od)).1
 unfold BG
 rw[hc,v.ix.1.1,if_pos ⟨v.sz,adU v.ar,afb v.ix,agm v.od,Ux v⟩,if_pos]
 rw[dM]
 intro i _ hi
 have hi:(i:Int)<T.n:=by have:=v.sz.1;omega
 unfold nH
 rw[v.ix.1.1]
 have e1:T.us.getD i false=inB L i:=v.us i hi
 have e2:RD 16 T.kx T.px T.ux i (T.ks.getD i 0)=true:=by
  unfold RD
  rw[FP]
  intro j hj
  unfold Lj
  cases u:T.ux.getD j false with
  |false=>rfl
  |true=>
   by_cases p:T.px.getD j 0=i
   ·obtain⟨i',a,b,c,d⟩:=(v.ce _ _).1 ⟨j,hj,u,rfl,p⟩
    have:i=i':=by omega
    subst this
    rw[d,beq_self_eq_true,Bool.or_true]
   ·rw[beq_eq_false_iff_ne.2 p];rfl
 have e3:T.us.getD i false=decide (Gu 16 T.px T.ux i=1):=by
  unfold Gu
  cases u:T.us.getD i false with
  |true=>
   obtain⟨j,hj,uj,f1,f2⟩:=OO v hi u
   rw[SH (i:=j) hj (by unfold Lj;simp only[uj,Bool.true_and];simpa using f2) fun j' hj' q=>?_]
   ·rfl
   ·unfold Lj at q
    rw[Bool.and_eq_true] at q
    obtain⟨q1,q2⟩:=q
    have q2:T.px.getD j' 0=i:=by simpa using q2
    obtain⟨i',a,b,c,d⟩:=(v.ce _ _).1 ⟨j',hj',q1,rfl,q2⟩
    have:i=i':=by omega
    subst this
    exact v.ix.2.2.2.2.2.1 j' j hj' hj q1 uj (by rw[←d,f1])
  |false=>
   rw[Fg fun j hj=>?_]
   ·rfl
   ·unfold Lj
    cases uj:T.ux.getD j false with
    |false=>rfl
    |true=>
     by_cases p:T.px.getD j 0=i
     ·obtain⟨i',a,b,c,d⟩:=(v.ce _ _).1 ⟨j,hj,uj,rfl,p⟩
      have:i=i':=by omega
      subst this
      rw[u] at c;cases c
     ·simpa using p
 rw[←e1,←e3,e2]
 cases u:T.us.getD i false with
 |true=>rw[if_pos rfl,v.bk i hi u];rfl
 |false=>
  obtain⟨z1,z2⟩:=v.zr i hi u
  rw[if_neg (by simp),z1,z2];rfl
theorem ahH {T:Tb} (ho:uK T):nO T=0↔BG T=0:=⟨fun h=>by obtain⟨L,F,v⟩:=KR ho h;exact aeG v,afN ho⟩
theorem abJ (T:Tb):nO T=0∨nO T=8:=by
 unfold nO;split
 ·split
  ·exact .inl rfl
  ·exact .inr rfl
 ·exact .inr rfl
theorem abI (T:Tb):BG T=0∨BG T=8:=by
 unfold BG;split
 ·split
  ·exact .inl rfl
  ·exact .inr rfl
 ·exact .inr rfl
theorem rC {T:Tb} (ho:uK T):nO T=BG T:=by
 have:=ahH ho
 rcases abJ T with a | a<;>rcases abI T with b | b<;>omega
end TableS
end

section
namespace TableS
open Go Go.Dam Go.Proofs
set_option maxRecDepth 1000000
theorem pz {T:Tb} {L F:List Int} (v:Inv T L F):(T.us.length:Int)=T.n:=by have:=v.ar.2.2.1;have:=v.sz.2.2.2.2.1;omega
end TableS
end

section
namespace TableS
open Go Go.Dam Go.Proofs
set_option maxRecDepth 1000000
theorem KA {T:Tb} (ho:uK T) (c:nO T=0):ZU T:=by
 obtain⟨L,F,v⟩:=KR ho c
 have ul:=pz v
 have s:=v.sz
 exact⟨ho.2.2.2.2.1,ul,by have:=s.2.2.2.1;omega,by have:=s.2.2.1;omega⟩
def rP (Q:Pt) (i:Nat):Bool:=decide (0<i) && ai .geq (Q.rv.getD (i - 1) 0) (Q.rv.getD i 0)
theorem agb (Q:Pt) (hl:Q.rv.length≤200):
  ((∀ i,i<Q.rv.length→rP Q i=false)∧Runs Try.prog (CallsD Try.prog) (.code (.loop (af Try.prog 17 0))) (zZ Q 0 0).abs (.exit 4) (zZ Q 0 Q.rv.length).abs)∨
  ((∃ i,i<Q.rv.length∧rP Q i=true)∧∃ j:Int,Runs Try.prog (CallsD Try.prog) (.code (.loop (af Try.prog 17 0))) (zZ Q 0 0).abs .ret (zZ Q 8 j).abs):=by
 have pre:∀ i:Nat,0<i→i<Q.rv.length→aj .sub .i64 (i:Int) 1=((i - 1:Nat):Int):=fun i h0 hi=>by rw[eY,aT (by omega) (by omega)];omega
 have step:∀ i,i<Q.rv.length→rP Q i=false→∀ (σ:St) (e:Ex),Runs Try.prog (CallsD Try.prog) (.rounds (af Try.prog 17 0)) (zZ Q 0 ((i+1:Nat):Int)).abs e σ→Runs Try.prog (CallsD Try.prog) (.rounds (af Try.prog 17 0)) (zZ Q 0 (i:Int)).abs e σ:=fun i hi hp σ e hr=>by
  rw[←dF hi hl] at hr
  refine Ff Q 0 i σ e ?_ ?_ ?_ ?_<;>dsimp only[At,Tr.q,RG,F5]
  ·intro _ g1 g2
   rw[dV] at g1
   unfold JV at g2
   rw[pre i (by omega) hi,Int.toNat_natCast,Int.toNat_natCast] at g2
   unfold rP at hp
   rw[g2,decide_eq_true (by omega)] at hp;cases hp
  ·intro _ g1 _
   rw[dV] at g1
   have hm:i - 1<Q.rv.length:=by omega
   rw[pre i (by omega) hi]
   exact⟨⟨(ay hm).1,(ay hm).2,(ay hi).1,(ay hi).2,trivial⟩,hr⟩
  ·intro _ _;exact⟨⟨(ay hi).1,(ay hi).2,trivial⟩,hr⟩
  ·intro g;rw[aX] at g;omega
 by_cases hx:∃ j,0≤j∧j<Q.rv.length∧¬ rP Q j=false
 ·obtain⟨j,_,j1,j2,_,j4⟩:=jZ (fun i=>zZ Q 0 (i:Int)) Q.rv.length (fun i=>rP Q i=false) step Q.rv.length 0 (by omega) hx
  have hp:rP Q j=true:=by simpa using j2
  have hp':=hp
  unfold rP at hp'
  rw[Bool.and_eq_true,decide_eq_true_eq] at hp'
  have hm:j - 1<Q.rv.length:=by omega
  have c0:JV Q j=true:=by unfold JV;rw[pre j hp'.1 j1,Int.toNat_natCast,Int.toNat_natCast];exact hp'.2
  refine .inr ⟨⟨j,j1,hp⟩,j,ak (j4 _ _ (Ff Q 0 j _ _ ?_ ?_ ?_ ?_))⟩
  ·intro _ _ _
   rw[pre j hp'.1 j1]
   exact⟨⟨(ay hm).1,(ay hm).2,(ay j1).1,(ay j1).2,trivial⟩,rfl,rfl⟩
  ·intro _ _ g;rw[c0] at g;cases g
  ·intro _ g;rw[gI] at g;omega
  ·intro g;rw[aX] at g;omega
 ·have hf:∀ i,i<Q.rv.length→rP Q i=false:=fun i hi=>by
   cases e:rP Q i with
   |false=>rfl
   |true=>exact absurd ⟨i,by omega,hi,by simp[e]⟩ hx
  refine .inl ⟨hf,ak ?_⟩
  refine dS (fun i=>zZ Q 0 (i:Int)) Q.rv.length (fun i=>rP Q i=false) step ?_ Q.rv.length 0 (by omega) (fun j _ hj=>hf j hj)
  refine Ff Q 0 Q.rv.length _ _ ?_ ?_ ?_ ?_<;>dsimp only[At,Tr.q,RG,F5]
  ·intro g;rw[aQ] at g;omega
  ·intro g;rw[aQ] at g;omega
  ·intro g;rw[aQ] at g;omega
  ·intro _;exact⟨trivial,rfl,rfl⟩
def ckP (Q:Pt):Prop:=Q.te<16∧mQ Q.b0 Q.r0 Q.p0 Q.b1 Q.r1 Q.p1 Q.b2 Q.r2 Q.p2=true∧wM Q.ob Q.orr Q.op Q.ov Q.oq=0∧nO Q.U=0∧nO Q.E=0∧
 Gj Q Q.b1 Q.r1 Q.p1 Q.b2 Q.r2 Q.p2=true∧(∀ i,i<Q.U.us.length→uP Q i=false)∧(∀ i,i<Q.E.us.length→eP Q i=false)∧Q.rv.length≤8∧∀ i,i<Q.rv.length→rP Q i=false
open Classical in
noncomputable def lG (Q:Pt):Int:=if ckP Q then 0 else 8
theorem gy {Q:Pt} (h:¬ ckP Q):lG Q=8:=by unfold lG;rw[if_neg h]
theorem Yv {Q:Pt} (h:ckP Q):lG Q=0:=by unfold lG;rw[if_pos h]
def uJ (Q:Pt):Prop:=jV Q.ov∧uK Q.U∧uK Q.E∧Q.rv.length≤200
theorem ae9 (Q:Pt) (h:uJ Q):CallsD Try.prog 17 [Q.d] (i64 (lG Q)):=by
 obtain⟨hv,hU,hE,hl⟩:=h
 by_cases d0:Q.te<16
 case neg=>
  rw[gy (fun n=>d0 n.1)]
  have f0:ai .geq Q.te 16=true:=by rw[iQ];omega
  refine jF Q 0 0 0 0 0 0 0 0 0 _ ?_ ?_ ?_ ?_ ?_ ?_ ?_ ?_<;>dsimp only[At,Tr.q,kU]
  all_goals simp only[f0,reduceCtorEq,false_implies,true_implies,implies_true,forall_const,true_and,and_true]
 have f0:ai .geq Q.te 16=false:=by rw[iP];omega
 cases f1:mQ Q.b0 Q.r0 Q.p0 Q.b1 Q.r1 Q.p1 Q.b2 Q.r2 Q.p2
 case false=>
  rw[gy (fun n=>by rw[n.2.1] at f1;cases f1)]
  refine jF Q 0 0 0 0 0 0 0 0 0 _ ?_ ?_ ?_ ?_ ?_ ?_ ?_ ?_<;>dsimp only[At,Tr.q,kU]
  all_goals simp only[f0,f1,Bool.not_false,reduceCtorEq,false_implies,true_implies,implies_true,forall_const,true_and,and_true]
 by_cases d2:wM Q.ob Q.orr Q.op Q.ov Q.oq=0
 case neg=>
  rw[gy (fun n=>d2 n.2.2.1)]
  have f2:ai .neq (wM Q.ob Q.orr Q.op Q.ov Q.oq) 0=true:=by rw[aP];exact d2
  refine jF Q 0 0 0 0 0 0 0 0 0 _ ?_ ?_ ?_ ?_ ?_ ?_ ?_ ?_<;>dsimp only[At,Tr.q,kU]
  all_goals simp only[f0,f1,f2,Bool.not_true,reduceCtorEq,false_implies,true_implies,implies_true,forall_const,true_and,and_true,hv]
 have f2:ai .neq (wM Q.ob Q.orr Q.op Q.ov Q.oq) 0=false:=by rw[aY];exact d2
 by_cases d3:nO Q.U=0
 case neg=>
  rw[gy (fun n=>d3 n.2.2.2.1)]
  have f3:ai .neq (nO Q.U) 0=true:=by rw[aP];exact d3
  refine jF Q 0 0 0 0 0 0 0 0 0 _ ?_ ?_ ?_ ?_ ?_ ?_ ?_ ?_<;>dsimp only[At,Tr.q,kU]
  all_goals simp only[f0,f1,f2,f3,Bool.not_true,reduceCtorEq,false_implies,true_implies,implies_true,forall_const,true_and,and_true,hv,hU]
 have f3:ai .neq (nO Q.U) 0=false:=by rw[aY];exact d3
 by_cases d4:nO Q.E=0
 case neg=>
  rw[gy (fun n=>d4 n.2.2.2.2.1)]
  have f4:ai .neq (nO Q.E) 0=true:=by rw[aP];exact d4
  refine jF Q 0 0 0 0 0 0 0 0 0 _ ?_ ?_ ?_ ?_ ?_ ?_ ?_ ?_<;>dsimp only[At,Tr.q,kU]
  all_goals simp only[f0,f1,f2,f3,f4,Bool.not_true,reduceCtorEq,false_implies,true_implies,implies_true,forall_const,true_and,and_true,hv,hU,hE]
 have f4:ai .neq (nO Q.E) 0=false:=by rw[aY];exact d4
 rcases aa8 Q (KA hU d3) with⟨uf,ur⟩ | ⟨⟨i,i1,i2⟩,c1,c2,c3,k,ur⟩
 case inr=>
  rw[gy (fun n=>by rw[n.2.2.2.2.2.2.1 i i1] at i2;cases i2)]
  refine UY Q c1 c2 c3 k _ ?_ ?_ ?_ ?_ ?_ ?_<;>dsimp only[At,Tr.q,Aw]
  all_goals simp only[f0,f1,f2,f3,f4,Bool.not_true,reduceCtorEq,false_implies,true_implies,implies_true,forall_const,true_and,and_true,hv,hU,hE]
  exact ur
 rcases aaR Q (KA hE d4) with⟨ef,er⟩ | ⟨⟨i,i1,i2⟩,c1,c2,c3,k,er⟩
 case inr=>
  rw[gy (fun n=>by rw[n.2.2.2.2.2.2.2.1 i i1] at i2;cases i2)]
  refine V5 Q Q.b1 Q.r1 Q.p1 c1 c2 c3 Q.U.us.length k _ ?_ ?_ ?_ ?_ ?_ ?_<;>dsimp only[At,Tr.q,Af]
  all_goals simp only[f0,f1,f2,f3,f4,Bool.not_true,reduceCtorEq,false_implies,true_implies,implies_true,forall_const,true_and,and_true,hv,hU,hE]
  exact⟨er,ur⟩
 have c2:Xh Q Q.b1 Q.r1 Q.p1 Q.b2 Q.r2 Q.p2=Gj Q Q.b1 Q.r1 Q.p1 Q.b2 Q.r2 Q.p2:=rfl
 have c3:XT Q Q.b1 Q.r1 Q.p1 Q.U.us.length:=ur
 have c4:Xo Q Q.b1 Q.r1 Q.p1 Q.b2 Q.r2 Q.p2 Q.E.us.length:=er
 cases f5:Gj Q Q.b1 Q.r1 Q.p1 Q.b2 Q.r2 Q.p2
 case false=>
  rw[gy (fun n=>by rw[n.2.2.2.2.2.1] at f5;cases f5)]
  refine jF Q Q.b1 Q.r1 Q.p1 Q.b2 Q.r2 Q.p2 Q.U.us.length Q.E.us.length 0 _ ?_ ?_ ?_ ?_ ?_ ?_ ?_ ?_<;>dsimp only[At,Tr.q,kU]
  all_goals simp only[f0,f1,f2,f3,f4,c2,f5,c3,c4,Bool.not_true,Bool.not_false,reduceCtorEq,false_implies,true_implies,implies_true,forall_const,true_and,and_true,hv,hU,hE]
 by_cases d6:Q.rv.length≤8
 case neg=>
  rw[gy (fun n=>d6 n.2.2.2.2.2.2.2.2.1)]
  have f6:ai .gtr (Q.rv.length:Int) 8=true:=by rw[dV];omega
  refine jF Q Q.b1 Q.r1 Q.p1 Q.b2 Q.r2 Q.p2 Q.U.us.length Q.E.us.length 0 _ ?_ ?_ ?_ ?_ ?_ ?_ ?_ ?_<;>dsimp only[At,Tr.q,kU]
  all_goals simp only[f0,f1,f2,f3,f4,c2,f5,f6,c3,c4,Bool.not_true,Bool.not_false,reduceCtorEq,false_implies,true_implies,implies_true,forall_const,true_and,and_true,hv,hU,hE]
 have f6:ai .gtr (Q.rv.length:Int) 8=false:=by rw[gI];omega
 rcases agb Q hl with⟨rf,rr⟩ | ⟨⟨i,i1,i2⟩,j,rr⟩
 case inr=>
  have e2:Zu Q Q.b1 Q.r1 Q.p1 Q.b2 Q.r2 Q.p2=Gj Q Q.b1 Q.r1 Q.p1 Q.b2 Q.r2 Q.p2:=rfl
  have e3:XD Q Q.b1 Q.r1 Q.p1 Q.U.us.length:=ur
  have e4:Xw Q Q.b1 Q.r1 Q.p1 Q.b2 Q.r2 Q.p2 Q.E.us.length:=er
  rw[gy (fun n=>by rw[n.2.2.2.2.2.2.2.2.2 i i1] at i2;cases i2)]
  refine VG Q Q.b1 Q.r1 Q.p1 Q.b2 Q.r2 Q.p2 Q.U.us.length Q.E.us.length j _ ?_ ?_ ?_ ?_ ?_ ?_ ?_ ?_<;>dsimp only[At,Tr.q,uN]
  all_goals simp only[f0,f1,f2,f3,f4,e2,f5,f6,e3,e4,Bool.not_true,Bool.not_false,reduceCtorEq,false_implies,true_implies,implies_true,forall_const,true_and,and_true,hv,hU,hE]
  exact rr
 rw[Yv ⟨d0,f1,d2,d3,d4,f5,uf,ef,d6,rf⟩]
 refine jF Q Q.b1 Q.r1 Q.p1 Q.b2 Q.r2 Q.p2 Q.U.us.length Q.E.us.length Q.rv.length _ ?_ ?_ ?_ ?_ ?_ ?_ ?_ ?_<;>dsimp only[At,Tr.q,kU]
 all_goals simp only[f0,f1,f2,f3,f4,c2,f5,f6,c3,c4,Bool.not_true,Bool.not_false,reduceCtorEq,false_implies,true_implies,implies_true,forall_const,true_and,and_true,hv,hU,hE]
 exact rr
end TableS
end

section
namespace TableS
open Go Go.Dam Go.Proofs
set_option maxRecDepth 1000000
def Q8:List D→Option (D×List Prop)
 |[]=>some (.agg [i64 10,i64 1,i64 2],[])
 |_=>none
def X14:aB:=X13
theorem ake:bG Try.prog X14:=ajm
end TableS
end

section
namespace TableS
open Go Go.Dam Go.Proofs
set_option maxRecDepth 1000000
end TableS
end

section
namespace TableS
open Go Go.Dam Go.Proofs
set_option maxRecDepth 1000000
def usW (T:Tb) (k b r p:Int):Prop:=nO T=0∧iV b r p=0∧plV T k<0∧T.fr=-1
instance (T:Tb) (k b r p:Int):Decidable (usW T k b r p):=by unfold usW;exact inferInstance
theorem EO {T:Tb} (ho:uK T) {L F:List Int} (v:Inv T L F):(T.ks.length:Int)=T.n∧(T.x1.length:Int)=T.n∧(T.x2.length:Int)=T.n∧(T.x3.length:Int)=T.n∧(T.x4.length:Int)=T.n∧(T.x5.length:Int)=T.n∧(T.x6.length:Int)=T.n:=by
 obtain⟨s1,s2,s3,s4,s5,s6⟩:=v.sz
 obtain⟨_,k2,k3,k4,k5,k6⟩:=ho.2.2.2.2.2.2.1
 omega
noncomputable section
end
noncomputable def X15:aB:=X14
theorem ajI:bG Try.prog X15:=ake
end TableS
end

section
namespace TableS
open Go Go.Dam Go.Proofs
set_option maxRecDepth 1000000
noncomputable section
end
end TableS
end

section
namespace TableS
open Go Go.Dam Go.Proofs
set_option maxRecDepth 1000000
noncomputable section
end
noncomputable def X18:aB:=X15
theorem aeC:bG Try.prog X18:=ajI
end TableS
end

section
namespace TableS
open Go Go.Dam Go.Proofs
set_option maxRecDepth 1000000
noncomputable def acO (nx:List Int) (us:List Bool) (f:Int):Tr D:= .s (nx.length=nx.length) (.s (nx.length*8≤17592186044416) (.s (us.length=us.length) (.s (us.length*1≤17592186044416) (.q (us.length) (.q (nx.length) (.lf (D.agg [D.oc [.ints .i64 nx],D.oc [.bools us],i64 f])))))))
theorem aiz (nx:List Int) (us:List Bool) (f:Int):Leaves (fun l=>cu Try.prog (X18) 100000 l 35 [D.agg [ri nx,rb us,i64 f]]) (acO nx us f) [] []:=by show _=_;kernel_rfl
theorem Vb (nx:List Int) (us:List Bool) (f:Int) (res:D) (h0:At (fun r=>res=r) (acO nx us f) [] True):CallsD Try.prog 35 [D.agg [ri nx,rb us,i64 f]] res:=au (aeC) (aiz nx us f) h0
noncomputable def acr (ps:List Int) (no:List Int) (h:Int) (t:Int):Tr D:= .s ((aH.ints .i64 ps).len=ah [.ints .i64 ps]) (.s (ah [.ints .i64 ps]*8≤17592186044416) (.s ((aH.ints .i64 no).len=ah [.ints .i64 no]) (.s (ah [.ints .i64 no]*8≤17592186044416) (.q (ah [.ints .i64 no]) (.q (ah [.ints .i64 ps]) (.lf (D.agg [D.oc [.ints .i64 ps],D.oc [.ints .i64 no],i64 h,i64 t])))))))
theorem ahE (ps no:List Int) (h t:Int):Leaves (fun l=>cu Try.prog (X18) 100000 l 36 [D.agg [ri ps,ri no,i64 h,i64 t]]) (acr ps no h t) [] []:=by show _=_;kernel_rfl
theorem U0 (ps no:List Int) (h t:Int) (res:D) (h0:At (fun r=>res=r) (acr ps no h t) [] True):CallsD Try.prog 36 [D.agg [ri ps,ri no,i64 h,i64 t]] res:=au (aeC) (ahE ps no h t) h0
theorem ae7 (nx:List Int) (us:List Bool) (f:Int) (h:nx.length≤200∧us.length≤200):CallsD Try.prog 35 [.agg [ri nx,rb us,i64 f]] (.agg [oi nx,ob us,i64 f]):=
 Vb nx us f _ ⟨⟨by omega,rfl,by omega,rfl,trivial⟩,rfl⟩
theorem aeZ (ps no:List Int) (h t:Int) (hl:ps.length≤200∧no.length≤200):CallsD Try.prog 36 [.agg [ri ps,ri no,i64 h,i64 t]] (.agg [oi ps,oi no,i64 h,i64 t]):=
 U0 ps no h t _ ⟨⟨by show no.length*8≤_;omega,rfl,by show ps.length*8≤_;omega,rfl,trivial⟩,rfl⟩
theorem aaO (args res l) (h:awC args=some (res,l)) (hl:aI l):CallsD Try.prog 35 args res:=by
 unfold awC at h;split at h
 ·simp only[Option.some.injEq,Prod.mk.injEq] at h
  obtain⟨rfl,rfl⟩:=h;obtain⟨h0,_⟩:=hl
  exact ae7 _ _ _ h0
 ·cases h
theorem ack (args res l) (h:lwC args=some (res,l)) (hl:aI l):CallsD Try.prog 36 args res:=by
 unfold lwC at h;split at h
 ·simp only[Option.some.injEq,Prod.mk.injEq] at h
  obtain⟨rfl,rfl⟩:=h;obtain⟨h0,_⟩:=hl
  exact aeZ _ _ _ _ h0
 ·cases h
end TableS
end

section
namespace TableS
open Go Go.Dam Go.Proofs
set_option maxRecDepth 1000000
end TableS
end

section
namespace TableS
open Go Go.Dam Go.Proofs
set_option maxRecDepth 1000000
noncomputable def X19:aB:=aJ 35 (.call awC) (aJ 36 (.call lwC) X18)
theorem ahX:bG Try.prog X19:=ax aaO (ax ack aeC)
end TableS
end

section
namespace TableS
open Go Go.Dam Go.Proofs
set_option maxRecDepth 1000000
end TableS
end

section
namespace TableS
open Go Go.Dam Go.Proofs
set_option maxRecDepth 1000000
noncomputable def ag4 (T:Tb):Tr D:= .s ((aH.ints .u32 T.ks).len=ah [.ints .u32 T.ks]) (.s (ah [.ints .u32 T.ks]*4≤17592186044416) (.s ((aH.ints .u64 T.x6).len=ah [.ints .i64 T.x1, .ints .i64 T.x2, .ints .i64 T.x3, .ints .i64 T.x4, .ints .i64 T.x5, .ints .u64 T.x6]) (.s ((aH.ints .i64 T.x5).len=ah [.ints .i64 T.x1, .ints .i64 T.x2, .ints .i64 T.x3, .ints .i64 T.x4, .ints .i64 T.x5, .ints .u64 T.x6]) (.s ((aH.ints .i64 T.x4).len=ah [.ints .i64 T.x1, .ints .i64 T.x2, .ints .i64 T.x3, .ints .i64 T.x4, .ints .i64 T.x5, .ints .u64 T.x6]) (.s ((aH.ints .i64 T.x3).len=ah [.ints .i64 T.x1, .ints .i64 T.x2, .ints .i64 T.x3, .ints .i64 T.x4, .ints .i64 T.x5, .ints .u64 T.x6]) (.s ((aH.ints .i64 T.x2).len=ah [.ints .i64 T.x1, .ints .i64 T.x2, .ints .i64 T.x3, .ints .i64 T.x4, .ints .i64 T.x5, .ints .u64 T.x6]) (.s ((aH.ints .i64 T.x1).len=ah [.ints .i64 T.x1, .ints .i64 T.x2, .ints .i64 T.x3, .ints .i64 T.x4, .ints .i64 T.x5, .ints .u64 T.x6]) (.s (ah [.ints .i64 T.x1, .ints .i64 T.x2, .ints .i64 T.x3, .ints .i64 T.x4, .ints .i64 T.x5, .ints .u64 T.x6]*48≤17592186044416) (.s (T.nx.length≤200∧T.us.length≤200) (.s ((aH.bools T.ux).len=ah [.ints .u32 T.kx, .ints .i64 T.px, .bools T.ux]) (.s ((aH.ints .i64 T.px).len=ah [.ints .u32 T.kx, .ints .i64 T.px, .bools T.ux]) (.s ((aH.ints .u32 T.kx).len=ah [.ints .u32 T.kx, .ints .i64 T.px, .bools T.ux]) (.s (ah [.ints .u32 T.kx, .ints .i64 T.px, .bools T.ux]*24≤17592186044416) (.s (T.ps.length≤200∧T.no.length≤200) (.q (ah [.ints .i64 T.no]) (.q (ah [.ints .i64 T.ps]) (.q (ah [.ints .u32 T.kx, .ints .i64 T.px, .bools T.ux]) (.q (ah [.bools T.us]) (.q (ah [.ints .i64 T.nx]) (.q (ah [.ints .i64 T.x1, .ints .i64 T.x2, .ints .i64 T.x3, .ints .i64 T.x4, .ints .i64 T.x5, .ints .u64 T.x6]) (.q (ah [.ints .u32 T.ks]) (.lf (D.agg [i64 T.n,D.oc [.ints .u32 T.ks],D.oc [.ints .i64 T.x1, .ints .i64 T.x2, .ints .i64 T.x3, .ints .i64 T.x4, .ints .i64 T.x5, .ints .u64 T.x6],D.oc [.ints .i64 T.nx],D.oc [.bools T.us],i64 T.fr,D.oc [.ints .u32 T.kx, .ints .i64 T.px, .bools T.ux],D.oc [.ints .i64 T.ps],D.oc [.ints .i64 T.no],i64 T.h,i64 T.t])))))))))))))))))))))))
theorem ajG (T:Tb):Leaves (fun l=>cu Try.prog (X19) 100000 l 16 [T.d]) (ag4 T) [] []:=by show _=_;kernel_rfl
theorem WS (T:Tb) (res:D) (h0:At (fun r=>res=r) (ag4 T) [] True):CallsD Try.prog 16 [T.d] res:=au (ahX) (ajG T) h0
theorem ahU (T:Tb) (h:T.ks.length≤200∧kcS T.x1 T.x2 T.x3 T.x4 T.x5 T.x6∧T.nx.length≤200∧T.us.length≤200∧ccS T.kx T.px T.ux∧T.ps.length≤200∧T.no.length≤200):CallsD Try.prog 16 [T.d] T.o:=by
 obtain⟨h1,h2,h3,h4,h5,h6,h7⟩:=h
 obtain⟨k1,k2,k3,k4,k5,k6⟩:=h2
 obtain⟨c1,c2,c3⟩:=h5
 refine WS T _ ⟨?_,rfl⟩
 (repeat' (first | assumption | apply And.intro))<;>first | exact trivial | rfl | (simp only[ah,aH.len]<;>omega)
end TableS
end

section
namespace TableS
open Go Go.Dam Go.Proofs
set_option maxRecDepth 1000000
end TableS
end

section
namespace TableS
open Go Go.Dam Go.Proofs
set_option maxRecDepth 1000000
def QG:D→Option Tb
 | .agg [.v (.int .i64 n), .rc [.ints .u32 ks], .rc [.ints .i64 x1, .ints .i64 x2, .ints .i64 x3, .ints .i64 x4, .ints .i64 x5, .ints .u64 x6], .rc [.ints .i64 nx], .rc [.bools us], .v (.int .i64 fr), .rc [.ints .u32 kx, .ints .i64 px, .bools ux], .rc [.ints .i64 ps], .rc [.ints .i64 no], .v (.int .i64 h), .v (.int .i64 t)]=>some ⟨n,ks,x1,x2,x3,x4,x5,x6,nx,us,fr,kx,px,ux,ps,no,h,t⟩
 |_=>none
theorem Dc {d:D} {T:Tb} (h:QG d=some T):d=T.d:=by
 unfold QG at h
 split at h
 ·simp only[Option.some.injEq] at h;subst h;rfl
 ·cases h
def aaE (f:Tb→D×List Prop):List D→Option (D×List Prop)
 |[d]=>match QG d with
  |some T=>some (f T)
  |none=>none
 |_=>none
theorem Tn {f:Tb→D×List Prop} {g:FuncId} (hf:∀ T,aI (f T).2→CallsD Try.prog g [T.d] (f T).1) (args res l) (h:aaE f args=some (res,l)) (hl:aI l):CallsD Try.prog g args res:=by
 unfold aaE at h
 split at h
 next d=>
  split at h
  next T ht=>
   simp only[Option.some.injEq] at h
   have e:=Dc ht
   subst e
   have:=hf T (by rw[h];exact hl)
   rw[h] at this;exact this
  ·cases h
 ·cases h
def Be (T:Tb):Prop:=T.ks.length≤200∧kcS T.x1 T.x2 T.x3 T.x4 T.x5 T.x6∧T.nx.length≤200∧T.us.length≤200∧ccS T.kx T.px T.ux∧T.ps.length≤200∧T.no.length≤200
def ah5:List D→Option (D×List Prop):=aaE fun T=>(T.o,[Be T])
theorem aaM (args res l) (h:ah5 args=some (res,l)) (hl:aI l):CallsD Try.prog 16 args res:=Tn (f:=fun T=>(T.o,[Be T])) (fun T h=>ahU T h.1) args res l h hl
noncomputable def X20:aB:=aJ 16 (.call ah5) X19
theorem ajx:bG Try.prog X20:=ax aaM ahX
end TableS
end
