/- What the functions compute, and the law. No condition. -/
import Derived.Test.YtfoelbdkgaliaaaGreatPzPH
set_option linter.unusedSectionVars false
set_option linter.unusedVariables false
set_option linter.unusedSimpArgs false
noncomputable section
namespace TableS
open Go Go.Dam Go.Proofs
set_option maxRecDepth 1000000
def KL (Q:Pt) (c1 c2 c3 d1 d2 d3:Int):Bool:=Q.ob ==Q.b0 && (Q.orr ==Q.r0 && (Q.op ==Q.p0 && true)) && (c1 ==Q.b1 && (c2 ==Q.r1 && (c3 ==Q.p1 && true)) && (d1 ==Q.b2 && (d2 ==Q.r2 && (d3 ==Q.p2 && true)) && true))
theorem Oy {Q:Pt} {c1 c2 c3 d1 d2 d3:Int} (h:KL Q c1 c2 c3 d1 d2 d3=true):(Q.ob=Q.b0∧Q.orr=Q.r0∧Q.op=Q.p0)∧(c1=Q.b1∧c2=Q.r1∧c3=Q.p1)∧d1=Q.b2∧d2=Q.r2∧d3=Q.p2:=by
 simp only[KL,Bool.and_eq_true,beq_iff_eq,and_true] at h
 exact h
def uP (Q:Pt) (i:Nat):Bool:=Q.U.us.getD i false && !KL Q (Q.U.x1.getD i 0) (Q.U.x2.getD i 0) (Q.U.x3.getD i 0) Q.b2 Q.r2 Q.p2
def eP (Q:Pt) (i:Nat):Bool:=Q.E.us.getD i false && ((!KL Q Q.b1 Q.r1 Q.p1 (Q.E.x1.getD i 0) (Q.E.x2.getD i 0) (Q.E.x3.getD i 0)) || ah .gtr (Q.E.ks.getD i 0) 65535)
theorem agy (Q:Pt) (h:alS Q.U):
  ((∀ i,i<Q.U.us.length→uP Q i=false)∧Rl 104 0 (vO Q 0 Q.b1 Q.r1 Q.p1 0).abs (.exit 0) (vO Q 0 Q.b1 Q.r1 Q.p1 Q.U.us.length).abs)∨
  ((∃ i,i<Q.U.us.length∧uP Q i=true)∧∃ c1 c2 c3 i,Rl 104 0 (vO Q 0 Q.b1 Q.r1 Q.p1 0).abs .ret (ckT (Af.done Code.ret) 0 Q Q.U 8 c1 c2 c3 Q.b2 Q.r2 Q.p2 i).abs):=by
 obtain⟨h1,h2,h3,h4⟩:=h
 have step:∀ i,i<Q.U.us.length→uP Q i=false→∀ (σ:St) (e:Ex),Rn 104 0 (vO Q 0 Q.b1 Q.r1 Q.p1 ((i+1:Nat):Int)).abs e σ→Rn 104 0 (vO Q 0 Q.b1 Q.r1 Q.p1 (i:Int)).abs e σ:=fun i hi hp σ e hr=>by
  have ix:i<Q.U.x1.length:=by omega
  have ik:i<Q.U.ks.length:=by omega
  have hl:ah .lss (i:Int) (Q.U.us.length:Int)=true:=by rw[aP];omega
  rw[←dW hi h1] at hr
  cases hu:Q.U.us.getD i false with
  |true=>
   have g:KL Q (Q.U.x1.getD i 0) (Q.U.x2.getD i 0) (Q.U.x3.getD i 0) Q.b2 Q.r2 Q.p2=true:=by
    unfold uP at hp;rw[hu] at hp;simpa using hp
   obtain⟨_,⟨a1,a2,a3⟩,_⟩:=Oy g
   refine jB zN (alr Q 0 Q.b1 Q.r1 Q.p1 i) ⟨?_,(aA ix).1,(aA ix).2,(aA ik).1,(aA ik).2,hu,(aA hi).1,(aA hi).2,hl,trivial⟩ ?_
   ·show(!KL Q (Q.U.x1.getD i 0) (Q.U.x2.getD i 0) (Q.U.x3.getD i 0) Q.b2 Q.r2 Q.p2)=false
    rw[g];rfl
   ·rw[Int.toNat_natCast,a1,a2,a3];exact hr
  |false=>exact jB zN (akm Q 0 Q.b1 Q.r1 Q.p1 i) ⟨hu,(aA hi).1,(aA hi).2,hl,trivial⟩ hr
 by_cases hx:∃ j,0≤j∧j<Q.U.us.length∧¬ uP Q j=false
 ·obtain⟨j,_,j1,j2,_,j4⟩:=lQ (fun i=>vO Q 0 Q.b1 Q.r1 Q.p1 (i:Int)) Q.U.us.length (fun i=>uP Q i=false) step Q.U.us.length 0 (by omega) hx
  have hp:uP Q j=true:=by simpa using j2
  have ix:j<Q.U.x1.length:=by omega
  have ik:j<Q.U.ks.length:=by omega
  have hl:ah .lss (j:Int) (Q.U.us.length:Int)=true:=by rw[aP];omega
  have hu:Q.U.us.getD j false=true:=by unfold uP at hp;rw[Bool.and_eq_true] at hp;exact hp.1
  have g:(!KL Q (Q.U.x1.getD j 0) (Q.U.x2.getD j 0) (Q.U.x3.getD j 0) Q.b2 Q.r2 Q.p2)=true:=by unfold uP at hp;rw[Bool.and_eq_true] at hp;exact hp.2
  exact .inr ⟨⟨j,j1,hp⟩,_,_,_,_,au (j4 _ _ (jH zN (amA Q 0 Q.b1 Q.r1 Q.p1 j) ⟨g,(aA ix).1,(aA ix).2,(aA ik).1,(aA ik).2,hu,(aA j1).1,(aA j1).2,hl,trivial⟩ (by simp) ⟨rfl,rfl⟩))⟩
 ·have hf:∀ i,i<Q.U.us.length→uP Q i=false:=fun i hi=>by
   cases e:uP Q i with
   |false=>rfl
   |true=>exact absurd ⟨i,by omega,hi,by simp[e]⟩ hx
  refine .inl ⟨hf,au ?_⟩
  exact fF (fun i=>vO Q 0 Q.b1 Q.r1 Q.p1 (i:Int)) Q.U.us.length (fun i=>uP Q i=false) step (jH zN (akE Q 0 Q.b1 Q.r1 Q.p1 Q.U.us.length) ⟨by rw[aX];omega,trivial⟩ (by simp) ⟨rfl,rfl⟩) Q.U.us.length 0 (by omega) (fun j _ hj=>hf j hj)
theorem agd (Q:Pt) (h:alS Q.E):
  ((∀ i,i<Q.E.us.length→eP Q i=false)∧Rl 104 0 (Ah Q 0 Q.b1 Q.r1 Q.p1 Q.b2 Q.r2 Q.p2 0).abs (.exit 0) (Ah Q 0 Q.b1 Q.r1 Q.p1 Q.b2 Q.r2 Q.p2 Q.E.us.length).abs)∨
  ((∃ i,i<Q.E.us.length∧eP Q i=true)∧∃ d1 d2 d3 i,Rl 104 0 (Ah Q 0 Q.b1 Q.r1 Q.p1 Q.b2 Q.r2 Q.p2 0).abs .ret (ckT (Af.done Code.ret) 1 Q Q.E 8 Q.b1 Q.r1 Q.p1 d1 d2 d3 i).abs):=by
 obtain⟨h1,h2,h3,h4⟩:=h
 have step:∀ i,i<Q.E.us.length→eP Q i=false→∀ (σ:St) (e:Ex),Rn 104 0 (Ah Q 0 Q.b1 Q.r1 Q.p1 Q.b2 Q.r2 Q.p2 ((i+1:Nat):Int)).abs e σ→Rn 104 0 (Ah Q 0 Q.b1 Q.r1 Q.p1 Q.b2 Q.r2 Q.p2 (i:Int)).abs e σ:=fun i hi hp σ e hr=>by
  have ix:i<Q.E.x1.length:=by omega
  have ik:i<Q.E.ks.length:=by omega
  have hl:ah .lss (i:Int) (Q.E.us.length:Int)=true:=by rw[aP];omega
  rw[←dW hi h1] at hr
  cases hu:Q.E.us.getD i false with
  |true=>
   unfold eP at hp;rw[hu,Bool.true_and,Bool.or_eq_false_iff] at hp
   have g:KL Q Q.b1 Q.r1 Q.p1 (Q.E.x1.getD i 0) (Q.E.x2.getD i 0) (Q.E.x3.getD i 0)=true:=by simpa using hp.1
   obtain⟨_,_,a1,a2,a3⟩:=Oy g
   refine jB zN (aki Q 0 Q.b1 Q.r1 Q.p1 Q.b2 Q.r2 Q.p2 i) ⟨?_,?_,(aA ix).1,(aA ix).2,(aA ik).1,(aA ik).2,hu,(aA hi).1,(aA hi).2,hl,trivial⟩ ?_
   ·exact hp.2
   ·show(!KL Q Q.b1 Q.r1 Q.p1 (Q.E.x1.getD i 0) (Q.E.x2.getD i 0) (Q.E.x3.getD i 0))=false
    rw[g];rfl
   ·rw[Int.toNat_natCast,a1,a2,a3];exact hr
  |false=>exact jB zN (alX Q 0 Q.b1 Q.r1 Q.p1 Q.b2 Q.r2 Q.p2 i) ⟨hu,(aA hi).1,(aA hi).2,hl,trivial⟩ hr
 by_cases hx:∃ j,0≤j∧j<Q.E.us.length∧¬ eP Q j=false
 ·obtain⟨j,_,j1,j2,_,j4⟩:=lQ (fun i=>Ah Q 0 Q.b1 Q.r1 Q.p1 Q.b2 Q.r2 Q.p2 (i:Int)) Q.E.us.length (fun i=>eP Q i=false) step Q.E.us.length 0 (by omega) hx
  have hp:eP Q j=true:=by simpa using j2
  have ix:j<Q.E.x1.length:=by omega
  have ik:j<Q.E.ks.length:=by omega
  have hl:ah .lss (j:Int) (Q.E.us.length:Int)=true:=by rw[aP];omega
  have hu:Q.E.us.getD j false=true:=by unfold eP at hp;rw[Bool.and_eq_true] at hp;exact hp.1
  refine .inr ⟨⟨j,j1,hp⟩,?_⟩
  cases g:(!KL Q Q.b1 Q.r1 Q.p1 (Q.E.x1.getD j 0) (Q.E.x2.getD j 0) (Q.E.x3.getD j 0)) with
  |true=>exact⟨_,_,_,_,au (j4 _ _ (jH zN (al9 Q 0 Q.b1 Q.r1 Q.p1 Q.b2 Q.r2 Q.p2 j) ⟨g,(aA ix).1,(aA ix).2,(aA ik).1,(aA ik).2,hu,(aA j1).1,(aA j1).2,hl,trivial⟩ (by simp) ⟨rfl,rfl⟩))⟩
  |false=>
   have k:ah .gtr (Q.E.ks.getD j 0) 65535=true:=by unfold eP at hp;rw[g,hu] at hp;simpa using hp
   exact⟨_,_,_,_,au (j4 _ _ (jH zN (al3 Q 0 Q.b1 Q.r1 Q.p1 Q.b2 Q.r2 Q.p2 j) ⟨k,g,(aA ix).1,(aA ix).2,(aA ik).1,(aA ik).2,hu,(aA j1).1,(aA j1).2,hl,trivial⟩ (by simp) ⟨rfl,rfl⟩))⟩
 ·have hf:∀ i,i<Q.E.us.length→eP Q i=false:=fun i hi=>by
   cases e:eP Q i with
   |false=>rfl
   |true=>exact absurd ⟨i,by omega,hi,by simp[e]⟩ hx
  refine .inl ⟨hf,au ?_⟩
  exact fF (fun i=>Ah Q 0 Q.b1 Q.r1 Q.p1 Q.b2 Q.r2 Q.p2 (i:Int)) Q.E.us.length (fun i=>eP Q i=false) step (jH zN (ajZ Q 0 Q.b1 Q.r1 Q.p1 Q.b2 Q.r2 Q.p2 Q.E.us.length) ⟨by rw[aX];omega,trivial⟩ (by simp) ⟨rfl,rfl⟩) Q.E.us.length 0 (by omega) (fun j _ hj=>hf j hj)
theorem TV (xs:List Int) (zs:List Bool) (k:Int):∀ (d i n:Nat),i<16→∃ s,s≤d∧(Y7 xs zs k d i n).1=(i+s)%16∧
  (∀ t,t<s→zs.getD ((i+t)%16) false=true∧xs.getD ((i+t)%16) 0≠k)∧(s<d→¬ (zs.getD ((i+s)%16) false=true∧xs.getD ((i+s)%16) 0≠k))
 |0,i,n,h=>⟨0,Nat.le_refl _,by simp only[Y7];rw[Nat.add_zero,Nat.mod_eq_of_lt h],fun t ht=>by omega,fun h=>by omega⟩
 |d+1,i,n,h=>by
  simp only[Y7]
  split
  next c=>
   obtain⟨s,h1,h2,h3,h4⟩:=TV xs zs k d ((i+1)%16) (n+1) (by omega)
   refine⟨s+1,by omega,by rw[h2];omega,fun t ht=>?_,fun hs=>?_⟩
   ·rcases t with _ | t
    ·rw[Nat.add_zero,Nat.mod_eq_of_lt h];exact c
    ·have:=h3 t (by omega)
     rwa[show((i+1)%16+t)%16=(i+(t+1))%16 by omega] at this
   ·have:=h4 (by omega)
    rwa[show((i+1)%16+s)%16=(i+(s+1))%16 by omega] at this
  next c=>
   refine⟨0,by omega,by rw[Nat.add_zero,Nat.mod_eq_of_lt h],fun t ht=>by omega,fun _=>?_⟩
   rw[Nat.add_zero,Nat.mod_eq_of_lt h];exact c
theorem wV {xs:List Int} {zs:List Bool} {k:Int} (hk:eX k) (hf:∃ j,j<16∧zs.getD j false=false):∃ s,s<16∧dn xs zs k=((cO k).toNat+s)%16∧
  (∀ t,t<s→zs.getD (((cO k).toNat+t)%16) false=true∧xs.getD (((cO k).toNat+t)%16) 0≠k)∧¬ (zs.getD (dn xs zs k) false=true∧xs.getD (dn xs zs k) 0≠k):=by
 have hh:=kC hk
 obtain⟨s,h1,h2,h3,h4⟩:=TV xs zs k 16 (cO k).toNat 0 (by omega)
 obtain⟨j,hj,hz⟩:=hf
 have hs:s<16:=by
  rcases Nat.lt_or_ge s 16 with c | c
  ·exact c
  ·have:=(h3 ((j+16 - (cO k).toNat)%16) (by omega)).1
   rw[show((cO k).toNat+(j+16 - (cO k).toNat)%16)%16=j by omega,hz] at this;cases this
 have e:dn xs zs k=((cO k).toNat+s)%16:=h2
 refine⟨s,hs,e,h3,?_⟩
 rw[e];exact h4 hs
theorem mY:∀ {L M:List Nat},L.Nodup→(∀ x∈L,x∈M)→L.length≤M.length
 |[],M,_,_=>by simp
 |x::L,M,h,hm=>by
  rw[List.nodup_cons] at h
  have hx:=hm x (by simp)
  have ih:=mY (L:=L) (M:=M.erase x) h.2 fun y hy=>(List.mem_erase_of_ne (fun e:y=x=>h.1 (by rw[←e];exact hy))).2 (hm y (by simp[hy]))
  rw[List.length_erase_of_mem hx] at ih
  have:0<M.length:=List.length_pos_of_mem hx
  simp only[List.length_cons];omega
theorem oU (zs:List Bool):∀ n,gq n zs=((List.range n).filter fun i=>zs.getD i false).length
 |0=>rfl
 |n+1=>by
  have ih:=oU zs n
  simp only[gq,cnt] at *
  rw[List.range_succ,List.filter_append,List.length_append,←ih]
  have:(List.filter (fun i=>zs.getD i false) [n]).length=bif zs.getD n false then 1 else 0:=by
   simp only[List.filter_cons];cases zs.getD n false<;>rfl
  rw[this]
theorem D6 {T:Tb} (h:jL T=0):T.sz∧rq T.nx T.us T.fr=0∧uw T.kx T.px T.ux=0∧pG T.ps T.no T.h T.t=0∧
  (∀ i,i<T.us.length→qO T (vH T.ps T.no T.h T.t) i=false)∧gq T.us.length T.us=gq T.kx.length T.ux:=by
 unfold jL at h;split at h
 next c=>
  split at h
  next d=>exact⟨c.1,c.2.1,c.2.2.1,c.2.2.2,fun i hi=>(dZ _ 0).1 d.1 i (by omega) (by omega),d.2⟩
  next=>cases h
 next=>cases h
theorem yw {α β:Type} {f:α→β}:∀ {L:List α},L.Nodup→(∀ x∈L,∀ y∈L,f x=f y→x=y)→(L.map f).Nodup
 |[],_,_=>by simp
 |a::L,h,hi=>by
  rw[List.nodup_cons] at h
  rw[List.map_cons,List.nodup_cons]
  refine⟨fun hm=>?_,yw h.2 fun x hx y hy e=>hi x (by simp[hx]) y (by simp[hy]) e⟩
  obtain⟨y,hy,e⟩:=List.mem_map.1 hm
  have:=hi y (by simp[hy]) a (by simp) e
  exact h.1 (this▸hy)
theorem Ry {T:Tb} (ho:fZ T) (h:jL T=0) {j:Nat} (hj:j<16) (hu:T.ux.getD j false=true):
  ∃ i:Nat,(i:Int)<T.n∧T.us.getD i false=true∧T.px.getD j 0=i∧T.kx.getD j 0=T.ks.getD i 0∧dn T.kx T.ux (T.ks.getD i 0)=j:=by
 obtain⟨⟨s1,s2,s3,s4,s5,s6⟩,a1,a2,a3,a4,a5⟩:=D6 h
 obtain⟨b1,b2,b3⟩:=zH a2
 have hun:=xR a1
 have hfree:=jK (ux:=T.ux) (n:=16) (by omega)
 let c:Nat→Nat:=fun i=>dn T.kx T.ux (T.ks.getD i 0)
 have hc:∀ i,i<T.us.length→T.us.getD i false=true→c i<16∧T.ux.getD (c i) false=true∧T.px.getD (c i) 0=i∧T.kx.getD (c i) 0=T.ks.getD i 0:=fun i hi hui=>by
  have hk:=ho.2.1 i (by omega)
  have hb:=a4 i hi
  simp only[qO,Bool.or_eq_false_iff,hui,if_true,decide_eq_false_iff_not,not_or,ne_eq,Decidable.not_not] at hb
  obtain⟨_,e1,e2,_⟩:=hb
  have hl:=Aa (kx:=T.kx) T.ux hk
  obtain⟨s,_,_,_,hs⟩:=wV (xs:=T.kx) hk hfree
  unfold tK at e1;rw[if_pos a2] at e1
  unfold pV at e2;rw[if_pos a2] at e2
  by_cases d:T.ux.getD (dn T.kx T.ux (T.ks.getD i 0)) false=true
  ·rw[if_pos d] at e2
   exact⟨hl,d,e2,Decidable.not_not.1 fun n=>hs ⟨d,n⟩⟩
  ·rw[if_neg d] at e1;cases e1
 let U:=(List.range T.us.length).filter fun i=>T.us.getD i false
 have hU:∀ i,i∈U↔i<T.us.length∧T.us.getD i false=true:=fun i=>by simp[U]
 have hnd:U.Nodup:=List.nodup_range.sublist List.filter_sublist
 have himg:(U.map c).Nodup:=yw hnd fun x hx y hy e=>by
  have h1:=(hc x ((hU x).1 hx).1 ((hU x).1 hx).2).2.2.1
  have h2:=(hc y ((hU y).1 hy).1 ((hU y).1 hy).2).2.2.1
  rw[e,h2] at h1;omega
 have hlen:U.length=gq 16 T.ux:=by
  have:=oU T.us T.us.length
  rw[a5,b1] at this;exact this.symm
 by_cases hm:j∈U.map c
 ·obtain⟨i,hi,rfl⟩:=List.mem_map.1 hm
  obtain⟨h1,h2⟩:=(hU i).1 hi
  have:=hc i h1 h2
  exact⟨i,by omega,h2,this.2.2.1,this.2.2.2,rfl⟩
 ·exfalso
  have hle:=mY (L:=j::U.map c) (M:=(List.range 16).filter fun i=>T.ux.getD i false) (List.nodup_cons.2 ⟨hm,himg⟩) (fun x hx=>by
   rw[List.mem_filter,List.mem_range]
   rcases List.mem_cons.1 hx with rfl | hx
   ·exact⟨hj,hu⟩
   ·obtain⟨i,hi,rfl⟩:=List.mem_map.1 hx
    obtain⟨h1,h2⟩:=(hU i).1 hi
    have:=hc i h1 h2
    exact⟨this.1,this.2.1⟩)
  rw[←oU,List.length_cons,List.length_map,hlen] at hle
  omega
theorem GN {T:Tb} (ho:fZ T) (h:jL T=0) {k:Int} (hk:eX k) (he:tK T.kx T.px T.ux k=0):
  ∃ i:Nat,pV T.kx T.px T.ux k=i∧(i:Int)<T.n∧T.us.getD i false=true∧T.ks.getD i 0=k:=by
 obtain⟨_,_,a2,_⟩:=D6 h
 obtain⟨b1,b2,b3⟩:=zH a2
 have hfree:=jK (ux:=T.ux) (n:=16) (by omega)
 have hl:=Aa (kx:=T.kx) T.ux hk
 obtain⟨s,_,_,_,hs⟩:=wV (xs:=T.kx) hk hfree
 unfold tK at he;rw[if_pos a2] at he
 by_cases d:T.ux.getD (dn T.kx T.ux k) false=true
 ·obtain⟨i,h1,h2,h3,h4,_⟩:=Ry ho h hl d
  refine⟨i,?_,h1,h2,?_⟩
  ·unfold pV;rw[if_pos a2,if_pos d];exact h3
  ·rw[←h4];exact Decidable.not_not.1 fun n=>hs ⟨d,n⟩
 ·rw[if_neg d] at he;cases he
def aiG (T:Tb) (k:Int):Tr D:= .s (okI T.kx∧eX k) (.e (ah .neq (tK T.kx T.px T.ux k) 0) (.lf (i64 (-1))) (.lf (i64 (pV T.kx T.px T.ux k))))
theorem ae9 (T:Tb) (k:Int) (res:D) (h0:Az res (aiG T k) [true]) (h1:Az res (aiG T k) [false]):Kl 60 [T.d,u32 k] res:=fA (acB) (aiG T k) ⟨h0,h1⟩
def aaW (T:Tb) (k:Int):Tr D:= .s (fZ T) (.e (ah .neq (jL T) 0) (.lf (D.aS [D.agg [i64 0,i64 0,i64 0,i64 0,i64 0,u64 0],i64 (jL T)])) (.s (okI T.kx∧eX k) (.e (ah .neq (tK T.kx T.px T.ux k) 0) (.p (.c 0) (.lf (D.aS [D.agg [i64 0,i64 0,i64 0,i64 0,i64 0,u64 0],i64 6]))) (.e (ah .lss (pV T.kx T.px T.ux k) 0) (.lf (D.aS [D.agg [i64 0,i64 0,i64 0,i64 0,i64 0,u64 0],i64 6])) (.s (decide (pV T.kx T.px T.ux k<(T.x1.length:Int))=true) (.s (decide (0≤pV T.kx T.px T.ux k)=true) (.lf (D.aS [D.agg [i64 (T.x1.getD (pV T.kx T.px T.ux k).toNat 0),i64 (T.x2.getD (pV T.kx T.px T.ux k).toNat 0),i64 (T.x3.getD (pV T.kx T.px T.ux k).toNat 0),i64 (T.x4.getD (pV T.kx T.px T.ux k).toNat 0),i64 (T.x5.getD (pV T.kx T.px T.ux k).toNat 0),u64 (T.x6.getD (pV T.kx T.px T.ux k).toNat 0)],i64 0]))))))))
theorem ac5 (T:Tb) (k:Int) (res:D) (h0:Az res (aaW T k) [true]) (h1:Az res (aaW T k) [false,true]) (h2:Az res (aaW T k) [false,false,true]) (h3:Az res (aaW T k) [false,false,false]):Kl 22 [T.d,u32 k] res:=fA (acB) (aaW T k) ⟨h0,fun e0=>⟨h1 e0,fun e1=>⟨h2 e0 e1,h3 e0 e1⟩⟩⟩
def SK (T:Tb) (k b r p v q a:Int):Tr D:= .s (fZ T) (.e (ah .neq (jL T) 0) (.lf (D.aS [D.agg [i64 0,bZ,bZ,bZ,bZ,i64 0,bZ,bZ,bZ,i64 0,i64 0],i64 (jL T)])) (.s (gy v) (.e (ah .neq (qA b r p v q) 0) (.lf (D.aS [D.agg [i64 0,bZ,bZ,bZ,bZ,i64 0,bZ,bZ,bZ,i64 0,i64 0],i64 (qA b r p v q)])) (.s (okI T.kx∧eX k) (.e (ah .neq (tK T.kx T.px T.ux k) 0) (.p (.c 0) (.lf (D.aS [D.agg [i64 0,bZ,bZ,bZ,bZ,i64 0,bZ,bZ,bZ,i64 0,i64 0],i64 6]))) (.e (ah .lss (pV T.kx T.px T.ux k) 0) (.lf (D.aS [D.agg [i64 0,bZ,bZ,bZ,bZ,i64 0,bZ,bZ,bZ,i64 0,i64 0],i64 6])) (.s (T.ks.length≤200) (.s (kcS T.x1 T.x2 T.x3 T.x4 T.x5 T.x6) (.s (T.nx.length≤200) (.s (T.us.length≤200) (.s (FM T.kx T.px T.ux) (.s (T.ps.length≤200) (.s (T.no.length≤200) (.s (decide (pV T.kx T.px T.ux k<(T.x1.length:Int))=true) (.s (decide (0≤pV T.kx T.px T.ux k)=true) (.s ((ay.ints .u64 T.x6).len=T.x1.length) (.s ((ay.ints .i64 T.x5).len=T.x1.length) (.s ((ay.ints .i64 T.x4).len=T.x1.length) (.s ((ay.ints .i64 T.x3).len=T.x1.length) (.s ((ay.ints .i64 T.x2).len=T.x1.length) (.s ((ay.ints .i64 T.x1).len=T.x1.length) (.s ((pV T.kx T.px T.ux k).toNat<T.x1.length) (.q (af [.ints .i64 T.no]) (.q (af [.ints .i64 T.ps]) (.q (af [.ints .u32 T.kx, .ints .i64 T.px, .bools T.ux]) (.q (af [.bools T.us]) (.q (af [.ints .i64 T.nx]) (.s (T.x1.length=(T.x1.set (pV T.kx T.px T.ux k).toNat b).length) (.q (af [.ints .u32 T.ks]) (.lf (D.aS [D.agg [i64 T.n,D.oc [.ints .u32 T.ks],D.oc [.ints .i64 (T.x1.set (pV T.kx T.px T.ux k).toNat b), .ints .i64 (T.x2.set (pV T.kx T.px T.ux k).toNat r), .ints .i64 (T.x3.set (pV T.kx T.px T.ux k).toNat p), .ints .i64 (T.x4.set (pV T.kx T.px T.ux k).toNat v), .ints .i64 (T.x5.set (pV T.kx T.px T.ux k).toNat q), .ints .u64 (T.x6.set (pV T.kx T.px T.ux k).toNat a)],D.oc [.ints .i64 T.nx],D.oc [.bools T.us],i64 T.fr,D.oc [.ints .u32 T.kx, .ints .i64 T.px, .bools T.ux],D.oc [.ints .i64 T.ps],D.oc [.ints .i64 T.no],i64 T.h,i64 T.t],i64 0])))))))))))))))))))))))))))))))
theorem Ut (T:Tb) (k b r p v q a:Int) (res:D) (h0:Az res (SK T k b r p v q a) [true]) (h1:Az res (SK T k b r p v q a) [false,true]) (h2:Az res (SK T k b r p v q a) [false,false,true]) (h3:Az res (SK T k b r p v q a) [false,false,false,true]) (h4:Az res (SK T k b r p v q a) [false,false,false,false]):Kl 43 [T.d,u32 k,D.agg [i64 b,i64 r,i64 p,i64 v,i64 q,u64 a]] res:=fA (acB) (SK T k b r p v q a) ⟨h0,fun e0=>⟨h1 e0,fun e1=>⟨h2 e0 e1,fun e2=>⟨h3 e0 e1 e2,h4 e0 e1 e2⟩⟩⟩⟩
def dL (T:Tb) (k:Int):Int:=if tK T.kx T.px T.ux k=0 then pV T.kx T.px T.ux k else -1
theorem an2 (T:Tb) (k:Int) (h:fZ T∧eX k):Kl 60 [T.d,u32 k] (i64 (dL T k)):=by
 unfold dL
 refine ae9 T k _ ?_ ?_<;>dsimp only[Az,Rg,At,Tr.q,Tr.e,aiG]
 ·intro g;rw[aI] at g;exact⟨⟨⟨h.1.1,h.2⟩,trivial⟩,by rw[if_neg g]⟩
 ·intro g;rw[aQ] at g;exact⟨⟨⟨h.1.1,h.2⟩,trivial⟩,by rw[if_pos g]⟩
def qW (T:Tb) (k:Int) (xs:List Int):Int:=if jL T=0∧tK T.kx T.px T.ux k=0 then xs.getD (pV T.kx T.px T.ux k).toNat 0 else 0
def gtE (T:Tb) (k:Int):Int:=if jL T=0 then(if tK T.kx T.px T.ux k=0 then 0 else 6) else jL T
theorem anN (T:Tb) (k:Int) (h:fZ T∧eX k):Kl 22 [T.d,u32 k] (.aS [.agg [i64 (qW T k T.x1),i64 (qW T k T.x2),i64 (qW T k T.x3),i64 (qW T k T.x4),i64 (qW T k T.x5),u64 (qW T k T.x6)],i64 (gtE T k)]):=by
 obtain⟨h,hk⟩:=h
 unfold qW gtE
 refine ac5 T k _ ?_ ?_ ?_ ?_<;>dsimp only[Az,Rg,At,Tr.q,Tr.e,aaW]
 ·intro g;rw[aI] at g
  refine⟨⟨h,trivial⟩,?_⟩
  simp only[if_neg (show ¬ (jL T=0∧tK T.kx T.px T.ux k=0) from fun c=>g c.1),if_neg g]
 ·intro g g2;rw[aQ] at g;rw[aI] at g2
  refine⟨⟨⟨h.1,hk⟩,h,trivial⟩,?_⟩
  simp only[if_neg (show ¬ (jL T=0∧tK T.kx T.px T.ux k=0) from fun c=>g2 c.2),if_pos g,if_neg g2]
 ·intro g g2 g3;rw[aQ] at g g2;rw[aP] at g3
  obtain⟨i,e,_⟩:=GN h g hk g2
  omega
 ·intro g g2 g3;rw[aQ] at g g2;rw[aX] at g3
  obtain⟨i,e,e2,_⟩:=GN h g hk g2
  obtain⟨⟨_,_,_,s4,_⟩,_⟩:=D6 g
  refine⟨⟨decide_eq_true (by omega),decide_eq_true (by omega),⟨h.1,hk⟩,h,trivial⟩,?_⟩
  simp only[if_pos (show jL T=0∧tK T.kx T.px T.ux k=0 from⟨g,g2⟩),if_pos g,if_pos g2]
abbrev Tb.o (T:Tb):D:= .agg [i64 T.n,ou T.ks,kco T.x1 T.x2 T.x3 T.x4 T.x5 T.x6,oi T.nx,ob T.us,i64 T.fr,cco T.kx T.px T.ux,oi T.ps,oi T.no,i64 T.h,i64 T.t]
def t0:Tb:=⟨0,[],[],[],[],[],[],[],[],[],0,[],[],[],[],[],0,0⟩
def Tb.put (T:Tb) (i:Nat) (b r p v q a:Int):Tb:={ T with x1:=T.x1.set i b,x2:=T.x2.set i r,x3:=T.x3.set i p,x4:=T.x4.set i v,x5:=T.x5.set i q,x6:=T.x6.set i a }
def seT (T:Tb) (k b r p v q a:Int):Tb:=if jL T=0∧qA b r p v q=0∧tK T.kx T.px T.ux k=0 then T.put (pV T.kx T.px T.ux k).toNat b r p v q a else t0
def seE (T:Tb) (k b r p v q:Int):Int:=if jL T=0 then(if qA b r p v q=0 then(if tK T.kx T.px T.ux k=0 then 0 else 6) else qA b r p v q) else jL T
theorem aac:jW (D.agg [i64 0,D.v (Value.slice none 0 0),D.v (Value.slice none 0 0),D.v (Value.slice none 0 0),D.v (Value.slice none 0 0),i64 0,D.v (Value.slice none 0 0),D.v (Value.slice none 0 0),D.v (Value.slice none 0 0),i64 0,i64 0]) t0.o:=
 bH.agg (.cons (.refl _) (.cons (.nil rfl) (.cons (.nil rfl) (.cons (.nil rfl) (.cons (.nil rfl) (.cons (.refl _) (.cons (.nil rfl) (.cons (.nil rfl) (.cons (.nil rfl) (.refl _))))))))))
theorem aoO (T:Tb) (k b r p v q a:Int) (h:fZ T∧eX k∧gy v):Kl 43 [T.d,u32 k, .agg [i64 b,i64 r,i64 p,i64 v,i64 q,u64 a]] (.aS [(seT T k b r p v q a).o,i64 (seE T k b r p v q)]):=by
 obtain⟨h,hk,hv⟩:=h
 unfold seT seE
 by_cases c:jL T=0∧qA b r p v q=0∧tK T.kx T.px T.ux k=0
 ·rw[if_pos c]
  obtain⟨c1,c2,c3⟩:=c
  obtain⟨i,e,e2,_⟩:=GN h c1 hk c3
  obtain⟨⟨_,_,_,s4,_⟩,_⟩:=D6 c1
  rw[if_pos c1,if_pos c2,if_pos c3]
  obtain⟨_,_,_,d1,d2,d3,d4,d5,d6,d7⟩:=h
  have h':fZ T:=⟨‹_›,‹_›,‹_›,d1,d2,d3,d4,d5,d6,d7⟩
  have d4':=d4
  obtain⟨f0,f1,f2,f3,f4,f5⟩:=d4'
  refine Ut T k b r p v q a _ ?_ ?_ ?_ ?_ ?_<;>dsimp only[Az,Rg,At,Tr.q,Tr.e,SK]
  ·intro g;rw[aI] at g;exact absurd c1 g
  ·intro _ g;rw[aI] at g;exact absurd c2 g
  ·intro _ _ g;rw[aI] at g;exact absurd c3 g
  ·intro _ _ _ g;rw[aP] at g;omega
  ·intro _ _ _ _
   refine⟨⟨?_,?_,rfl,f1,f2,f3,f4,f5,decide_eq_true (by omega),decide_eq_true (by omega),d3,d7,d5,d2,d1,d4,d6,⟨h'.1,hk⟩,hv,h',trivial⟩,rfl⟩
   ·rw[List.length_set]
   ·omega
 ·rw[if_neg c]
  have st:∀ e:Int,Kl 43 [T.d,u32 k, .agg [i64 b,i64 r,i64 p,i64 v,i64 q,u64 a]] (.aS [D.agg [i64 0,D.v (Value.slice none 0 0),D.v (Value.slice none 0 0),D.v (Value.slice none 0 0),D.v (Value.slice none 0 0),i64 0,D.v (Value.slice none 0 0),D.v (Value.slice none 0 0),D.v (Value.slice none 0 0),i64 0,i64 0],i64 e])→
    Kl 43 [T.d,u32 k, .agg [i64 b,i64 r,i64 p,i64 v,i64 q,u64 a]] (.aS [t0.o,i64 e]):=fun e=>bf (bH.aS (.cons aac (.refl _)))
  refine st _ ?_
  refine Ut T k b r p v q a _ ?_ ?_ ?_ ?_ ?_<;>dsimp only[Az,Rg,At,Tr.q,Tr.e,SK]
  ·intro g;rw[aI] at g;exact⟨⟨h,trivial⟩,by rw[if_neg g]⟩
  ·intro g g2;rw[aQ] at g;rw[aI] at g2;exact⟨⟨hv,h,trivial⟩,by rw[if_pos g,if_neg g2]⟩
  ·intro g g2 g3;rw[aQ] at g g2;rw[aI] at g3;exact⟨⟨⟨h.1,hk⟩,hv,h,trivial⟩,by rw[if_pos g,if_pos g2,if_neg g3]⟩
  ·intro g g2 g3;rw[aQ] at g g2 g3;exact absurd ⟨g,g2,g3⟩ c
  ·intro g g2 g3;rw[aQ] at g g2 g3;exact absurd ⟨g,g2,g3⟩ c
theorem ags {T:Tb} (h:jL T=0):vH T.ps T.no T.h T.t=bM T.no T.h∧QU T.n.toNat (bM T.no T.h):=by
 obtain⟨⟨s1,s2,s3,s4,s5,s6⟩,a1,a2,a3,_⟩:=D6 h
 have ho:=Bh (yD _) (DU a3)
 obtain⟨_,_,c3,_⟩:=Ac a3
 refine⟨by unfold vH;rw[if_pos a3],?_⟩
 rw[show T.n.toNat=T.no.length by omega];exact ho
theorem acP (f:Int→Int) (l:List Int) (i:Nat) (h:i<l.length):(l.take (i+1)).map f=(l.take i).map f ++ [f (l.getD i 0)]:=by
 rw[List.take_add_one,List.getElem?_eq_getElem h,List.map_append,List.getD_eq_getElem?_getD,List.getElem?_eq_getElem h];rfl
def plC:List D→Option (D×List Prop)
 |[.agg [.v (.int .i64 n), .rc [.ints .u32 ks], .rc [.ints .i64 x1, .ints .i64 x2, .ints .i64 x3, .ints .i64 x4, .ints .i64 x5, .ints .u64 x6], .rc [.ints .i64 nx], .rc [.bools us], .v (.int .i64 fr), .rc [.ints .u32 kx, .ints .i64 px, .bools ux], .rc [.ints .i64 ps], .rc [.ints .i64 no], .v (.int .i64 h), .v (.int .i64 t)], .v (.int .u32 k)]=>some (i64 (dL ⟨n,ks,x1,x2,x3,x4,x5,x6,nx,us,fr,kx,px,ux,ps,no,h,t⟩ k),[fZ ⟨n,ks,x1,x2,x3,x4,x5,x6,nx,us,fr,kx,px,ux,ps,no,h,t⟩∧eX k])
 |_=>none
theorem ala (args res l) (h:plC args=some (res,l)) (hl:aJ l):Kl 60 args res:=by
 unfold plC at h;split at h
 ·obtain⟨rfl,rfl⟩:=dB h
  exact an2 _ _ hl.1
 ·cases h
def gtC:List D→Option (D×List Prop)
 |[.agg [.v (.int .i64 n), .rc [.ints .u32 ks], .rc [.ints .i64 x1, .ints .i64 x2, .ints .i64 x3, .ints .i64 x4, .ints .i64 x5, .ints .u64 x6], .rc [.ints .i64 nx], .rc [.bools us], .v (.int .i64 fr), .rc [.ints .u32 kx, .ints .i64 px, .bools ux], .rc [.ints .i64 ps], .rc [.ints .i64 no], .v (.int .i64 h), .v (.int .i64 t)], .v (.int .u32 k)]=>some ((.aS [.agg [i64 (qW ⟨n,ks,x1,x2,x3,x4,x5,x6,nx,us,fr,kx,px,ux,ps,no,h,t⟩ k x1),i64 (qW ⟨n,ks,x1,x2,x3,x4,x5,x6,nx,us,fr,kx,px,ux,ps,no,h,t⟩ k x2),i64 (qW ⟨n,ks,x1,x2,x3,x4,x5,x6,nx,us,fr,kx,px,ux,ps,no,h,t⟩ k x3),i64 (qW ⟨n,ks,x1,x2,x3,x4,x5,x6,nx,us,fr,kx,px,ux,ps,no,h,t⟩ k x4),i64 (qW ⟨n,ks,x1,x2,x3,x4,x5,x6,nx,us,fr,kx,px,ux,ps,no,h,t⟩ k x5),u64 (qW ⟨n,ks,x1,x2,x3,x4,x5,x6,nx,us,fr,kx,px,ux,ps,no,h,t⟩ k x6)],i64 (gtE ⟨n,ks,x1,x2,x3,x4,x5,x6,nx,us,fr,kx,px,ux,ps,no,h,t⟩ k)]),[fZ ⟨n,ks,x1,x2,x3,x4,x5,x6,nx,us,fr,kx,px,ux,ps,no,h,t⟩∧eX k])
 |_=>none
theorem amI (args res l) (h:gtC args=some (res,l)) (hl:aJ l):Kl 22 args res:=by
 unfold gtC at h;split at h
 ·obtain⟨rfl,rfl⟩:=dB h
  exact anN _ _ hl.1
 ·cases h
def seC:List D→Option (D×List Prop)
 |[.agg [.v (.int .i64 n), .rc [.ints .u32 ks], .rc [.ints .i64 x1, .ints .i64 x2, .ints .i64 x3, .ints .i64 x4, .ints .i64 x5, .ints .u64 x6], .rc [.ints .i64 nx], .rc [.bools us], .v (.int .i64 fr), .rc [.ints .u32 kx, .ints .i64 px, .bools ux], .rc [.ints .i64 ps], .rc [.ints .i64 no], .v (.int .i64 h), .v (.int .i64 t)], .v (.int .u32 k), .agg [.v (.int .i64 b), .v (.int .i64 r), .v (.int .i64 p), .v (.int .i64 v), .v (.int .i64 q), .v (.int .u64 a)]]=>some ((.aS [(seT ⟨n,ks,x1,x2,x3,x4,x5,x6,nx,us,fr,kx,px,ux,ps,no,h,t⟩ k b r p v q a).o,i64 (seE ⟨n,ks,x1,x2,x3,x4,x5,x6,nx,us,fr,kx,px,ux,ps,no,h,t⟩ k b r p v q)]),[fZ ⟨n,ks,x1,x2,x3,x4,x5,x6,nx,us,fr,kx,px,ux,ps,no,h,t⟩∧eX k∧gy v])
 |_=>none
theorem alU (args res l) (h:seC args=some (res,l)) (hl:aJ l):Kl 43 args res:=by
 unfold seC at h;split at h
 ·obtain⟨rfl,rfl⟩:=dB h
  exact aoO _ _ _ _ _ _ _ _ hl.1
 ·cases h
def X11:aB:=aF 60 (.call plC) (aF 22 (.call gtC) (aF 43 (.call seC) X10))
theorem adX:bT Pg X11:=aj ala (aj amI (aj alU acB))
theorem sJ {nx:List Int}:∀ {d:Nat} {i:Int} {l l':List Int},chain nx d i l=some l'→∃ t,l'=l ++ t
 |0,_,_,_,h=>by cases h
 |d+1,i,l,l',h=>by
  simp only[chain] at h
  split at h
  ·simp only[Option.some.injEq] at h;exact⟨[],by simp[h]⟩
  ·split at h
   ·cases h
   ·obtain⟨t,e⟩:=sJ h
    exact⟨i::t,by rw[e];simp⟩
def MN (n:Nat) (us ys:List Bool) (l:List Int):Prop:=ys.length=n∧∀ j,j<n→ys.getD j false=(us.getD j false || decide ((j:Int)∈l))
theorem NQ {n:Nat} {us ys:List Bool} {l:List Int} (h:MN n us ys l) {i:Int} (h0:0≤i) (h1:i<(n:Int)):MN n us (ys.set i.toNat true) (l ++ [i]):=by
 refine⟨by simpa using h.1,fun j hj=>?_⟩
 have hl:=h.1
 by_cases e:i.toNat=j
 ·subst e
  have:i=((i.toNat:Nat):Int):=by omega
  simp only[List.getD_eq_getElem?_getD]
  rw[List.getElem?_set_self (by omega)]
  simp[←this]
 ·have:=h.2 j hj
  simp only[List.getD_eq_getElem?_getD] at this ⊢
  rw[List.getElem?_set_ne e,this]
  have:(j:Int)≠i:=by omega
  simp[this]
theorem Fg {nx:List Int} {us:List Bool}:∀ (d:Nat) (i:Int) (ys:List Bool) (l l':List Int),MN nx.length us ys l→chain nx d i l=some l'→(∀ x∈l',us.getD x.toNat false=false)→
  ∃ ys',qm nx d i ys=some ys'∧MN nx.length us ys' l'
 |0,_,_,_,_,_,h,_=>by cases h
 |d+1,i,ys,l,l',hs,h,hu=>by
  simp only[chain] at h
  simp only[qm]
  by_cases c1:i=-1
  ·rw[if_pos c1] at h ⊢
   simp only[Option.some.injEq] at h;subst h
   exact⟨ys,rfl,hs⟩
  ·rw[if_neg c1] at h ⊢
   split at h
   ·cases h
   next c2=>
    have h0:0≤i:=by omega
    have h1:i<(nx.length:Int):=by omega
    have hm:i∉l:=fun hm=>c2 (.inr (.inr hm))
    obtain⟨t,e⟩:=sJ h
    have hi:us.getD i.toNat false=false:=hu i (by rw[e];simp)
    have hy:ys.getD i.toNat false=false:=by
     rw[hs.2 i.toNat (by omega),hi,show((i.toNat:Nat):Int)=i by omega];simpa using hm
    rw[if_neg (by rw[hy];rintro(c | c | c)<;>first | omega | cases c)]
    exact Fg d _ _ _ _ (NQ hs h0 h1) h hu
theorem ahB {nx:List Int} {us:List Bool} {f:Int} (h:ku nx us f=0):1≤nx.length∧nx.length≤16∧us.length=nx.length∧KU nx f=true∧∀ i,i<nx.length→tV nx us f i=false:=by
 unfold ku at h;split at h
 next c=>
  split at h
  next d=>exact⟨c.1,c.2.1,c.2.2.1,c.2.2.2,fun i hi=>(dZ _ 0).1 d i (by omega) (by omega)⟩
  next=>cases h
 next=>cases h
theorem acs {a b:Bool} (h:(a ==b)=false):a=!b:=by cases a<;>cases b<;>simp_all
theorem V8 {nx:List Int} {us:List Bool} {f:Int} (h:ku nx us f=0):rq nx us f=0:=by
 obtain⟨c1,c2,c3,c4,c5⟩:=ahB h
 have ho:=xU c4
 have hu:∀ j,j<nx.length→us.getD j false=!inB (bM nx f) j:=fun j hj=>by
  have:=c5 j hj
  simp only[tV,Bool.or_eq_false_iff] at this
  exact acs this.1
 obtain⟨ys,e,hs⟩:=Fg (nx:=nx) (us:=us) (nx.length+1) f us [] (bM nx f) ⟨c3,fun j hj=>by simp⟩ (DJ c4) fun x hx=>by
  have hb:=ho.2 x hx
  rw[hu x.toNat (by omega),show((x.toNat:Nat):Int)=x by omega]
  simpa [inB] using hx
 unfold rq
 rw[if_pos ⟨c1,c2,c3⟩,e]
 simp only
 rw[if_pos]
 rw[dZ]
 intro j _ hj
 have hj:j<nx.length:=by omega
 have h1:=hs.2 j hj
 have h2:=c5 j hj
 simp only[tV,Bool.or_eq_false_iff] at h2
 have h3:=hu j hj
 simp only[Kr,h2.2,Bool.or_false]
 rw[h1,h3]
 unfold inB
 by_cases m:(j:Int)∈bM nx f<;>simp[m]
theorem aN {l:List Int} {i:Nat} {x:Int} (h:i<l.length):(l.set i x).getD i 0=x:=by
 rw[List.getD_eq_getElem?_getD,List.getElem?_set_self h];rfl
theorem getD_set_ne {l:List Int} {i j:Nat} {x:Int} (h:i≠j):(l.set i x).getD j 0=l.getD j 0:=by
 rw[List.getD_eq_getElem?_getD,List.getElem?_set_ne h,←List.getD_eq_getElem?_getD]
theorem oz {l:List Int} (h:l.Nodup) {i j:Nat} (hi:i<l.length) (hj:j<l.length) (e:l.getD i 0=l.getD j 0):i=j:=by
 rw[List.getD_eq_getElem?_getD,List.getD_eq_getElem?_getD,List.getElem?_eq_getElem hi,List.getElem?_eq_getElem hj] at e
 exact(List.getElem_inj h).1 e
theorem rW {n:Nat} {l:List Int} (h:QU n l) {i:Nat} (hi:i<l.length):0≤l.getD i 0∧l.getD i 0<(n:Int):=by
 apply h.2
 rw[List.getD_eq_getElem?_getD,List.getElem?_eq_getElem hi];exact List.getElem_mem hi
theorem WM {n:Nat} {xs:List Int} (h:QU n xs):∀ m,m≤xs.length→(∀ k,0<k→k<m→(Ad n xs m).getD (xs.getD k 0).toNat 0=xs.getD (k - 1) 0)∧
  (∀ j,j<n→(∀ k,0<k→k<m→xs.getD k 0≠j)→(Ad n xs m).getD j 0=-1)
 |0,_=>⟨fun k _ hk=>by omega,fun j hj _=>by simp[Ad,List.getD_eq_getElem?_getD,hj]⟩
 |m+1,hm=>by
  obtain⟨i1,i2⟩:=WM h m (by omega)
  by_cases c:m=0
  ·subst c
   refine⟨fun k a b=>by omega,fun j hj _=>?_⟩
   simp only[Ad,if_true]
   exact i2 j hj fun k a b=>by omega
  ·simp only[Ad,if_neg c]
   have bm:=rW h (i:=m) (by omega)
   refine⟨fun k a b=>?_,fun j hj hk=>?_⟩
   ·by_cases e:k=m
    ·subst e;rw[aN (by rw[AB];omega)]
    ·have bk:=rW h (i:=k) (by omega)
     rw[getD_set_ne (fun q=>e (oz h.1 (by omega) (by omega) (by omega))),i1 k a (by omega)]
   ·rw[getD_set_ne (fun q=>hk m (by omega) (by omega) (by omega)),i2 j hj fun k a b=>hk k a (by omega)]
theorem WE {n:Nat} {xs:List Int} (h:QU n xs):∀ m,m≤xs.length→
  (∀ j,j<n→(∀ k,k+1<m→xs.getD k 0≠j)→(zh n xs m).getD j 0=-1)
 |0,_=>fun j hj _=>by simp[zh,List.getD_eq_getElem?_getD,hj]
 |m+1,hm=>by
  have i2:=WE h m (by omega)
  by_cases c:m=0
  ·subst c
   intro j hj _
   simp only[zh,if_true]
   exact i2 j hj fun k b=>by omega
  ·simp only[zh,if_neg c]
   have bm:=rW h (i:=m - 1) (by omega)
   intro j hj hk
   rw[getD_set_ne (fun q=>hk (m - 1) (by omega) (by omega)),i2 j hj fun k b=>hk k (by omega)]
theorem YS {ps nx:List Int} {h t:Int} (e:lJ ps nx h t=0):1≤ps.length∧ps.length≤16∧nx.length=ps.length∧KU nx h=true∧
  ps=Ad ps.length (bM nx h) (bM nx h).length∧nx=zh ps.length (bM nx h) (bM nx h).length∧h=U9 (bM nx h) (bM nx h).length∧t=IK (bM nx h) (bM nx h).length:=by
 unfold lJ at e;split at e
 next c=>
  obtain⟨c1,c2,c3,c4,c5⟩:=c
  simp only[adh,FX,Rq,Bool.and_eq_true,decide_eq_true_eq] at c5
  exact⟨c1,c2,c3,c4,c5⟩
 next=>cases e
theorem Bj {l t:List Int} {k:Nat} (h:k<l.length):(l ++ t).getD k 0=l.getD k 0:=by
 rw[List.getD_eq_getElem?_getD,List.getElem?_append_left h,←List.getD_eq_getElem?_getD]
theorem LU {l t:List Int} {x:Int}:(l ++ x::t).getD l.length 0=x:=by
 rw[List.getD_eq_getElem?_getD,List.getElem?_append_right (Nat.le_refl _)];simp
theorem Es {ps nx:List Int} (hn:nx.length=ps.length):∀ (d:Nat) (i:Int) (ys:List Bool) (l l':List Int),sS nx.length ys l→chain nx d i l=some l'→
  (∀ k,k<l'.length→ps.getD (l'.getD k 0).toNat 0=if k=0 then -1 else l'.getD (k - 1) 0)→
  ∃ ys',lm ps nx d (IK l l.length) i ys=some (IK l' l'.length,ys')∧sS nx.length ys' l'
 |0,_,_,_,_,_,h,_=>by cases h
 |d+1,i,ys,l,l',hs,h,hp=>by
  simp only[chain] at h
  simp only[lm]
  by_cases c1:i=-1
  ·rw[if_pos c1] at h ⊢
   simp only[Option.some.injEq] at h;subst h
   exact⟨ys,rfl,hs⟩
  ·rw[if_neg c1] at h ⊢
   split at h
   ·cases h
   next c2=>
    have h0:0≤i:=by omega
    have h1:i<(nx.length:Int):=by omega
    have hm:i∉l:=fun hm=>c2 (.inr (.inr hm))
    obtain⟨t,e⟩:=sJ h
    rw[List.append_assoc,List.singleton_append] at e
    have hy:ys.getD i.toNat false=false:=by
     rw[hs.2 i.toNat (by omega),show((i.toNat:Nat):Int)=i by omega];simpa using hm
    have hq:ps.getD i.toNat 0=IK l l.length:=by
     have:=hp l.length (by rw[e];simp)
     rw[e,LU] at this
     rw[this]
     unfold IK
     split
     ·rfl
     next c=>rw[Bj (by omega)]
    rw[if_neg (by rw[hy,hq];rintro(c | c | c | c)<;>first | omega | cases c | exact c rfl)]
    have:=Es hn d _ _ _ _ (zA hs h0 h1) h hp
    have e2:IK (l ++ [i]) (l ++ [i]).length=i:=by
     unfold IK;rw[if_neg (by simp)]
     rw[show(l ++ [i]).length - 1=l.length by simp];exact LU
    rw[e2] at this;exact this
theorem Xc {ps nx:List Int} {h t:Int} (e:lJ ps nx h t=0):pG ps nx h t=0:=by
 obtain⟨c1,c2,c3,c4,e1,e2,e3,e4⟩:=YS e
 have ho:=xU c4
 rw[c3] at ho
 obtain⟨p1,p2⟩:=WM ho _ (Nat.le_refl _)
 have n2:=WE ho _ (Nat.le_refl _)
 obtain⟨ys,w,hs⟩:=Es c3 (nx.length+1) h (List.replicate nx.length false) [] (bM nx h) (zk _) (DJ c4) fun k hk=>by
  by_cases k0:k=0
  ·subst k0
   rw[if_pos rfl,e1]
   have b:=rW ho hk
   exact p2 _ (by omega) fun k' a b' q=>by
    have:=oz ho.1 b' hk (by omega);omega
  ·rw[if_neg k0,e1]
   exact p1 k (by omega) hk
 unfold pG
 rw[if_pos ⟨c1,c2,c3⟩]
 have w0:IK [] ([]:List Int).length=-1:=rfl
 rw[w0,c3] at w
 rw[w]
 simp only
 rw[if_pos]
 refine⟨?_,e4⟩
 rw[dZ]
 intro j _ hj
 have hj:j<ps.length:=by omega
 have h1:=hs.2 j (by omega)
 unfold Ey
 by_cases m:(j:Int)∈bM nx h
 ·rw[h1];simp[m]
 ·have q1:ps.getD j 0=-1:=by
   rw[e1]
   exact p2 j hj fun k a b q=>m (by rw[←q,List.getD_eq_getElem?_getD,List.getElem?_eq_getElem b];exact List.getElem_mem b)
  have q2:nx.getD j 0=-1:=by
   rw[e2]
   exact n2 j hj fun k b q=>m (by
    have b':k<(bM nx h).length:=by omega
    rw[←q,List.getD_eq_getElem?_getD,List.getElem?_eq_getElem b'];exact List.getElem_mem b')
  rw[q1,q2];simp
def Seg (nx:List Int):Int→List Int→Int→Prop
 |i,[],m=>i=m
 |i,x::l,m=>i=x∧(0≤x∧x<(nx.length:Int))∧Seg nx (nx.getD x.toNat 0) l m
theorem yc {nx:List Int}:∀ {A B:List Int} {i m:Int},Seg nx i (A ++ B) m↔∃ k,Seg nx i A k∧Seg nx k B m
 |[],B,i,m=>⟨fun h=>⟨i,rfl,h⟩,fun⟨k,h,g⟩=>by cases h;exact g⟩
 |x::A,B,i,m=>by
  simp only[List.cons_append,Seg,yc]
  exact⟨fun⟨a,b,k,c,d⟩=>⟨k,⟨a,b,c⟩,d⟩,fun⟨k,⟨a,b,c⟩,d⟩=>⟨a,b,k,c,d⟩⟩
theorem nO {nx:List Int} {p:Nat} {v:Int}:∀ {A:List Int} {i m:Int},(p:Int)∉A→Seg nx i A m→Seg (nx.set p v) i A m
 |[],_,_,_,h=>h
 |x::A,i,m,hp,h=>by
  obtain⟨a,b,c⟩:=h
  simp only[List.mem_cons,not_or] at hp
  refine⟨a,by rw[List.length_set];exact b,?_⟩
  rw[getD_set_ne (by omega)]
  exact nO hp.2 c
theorem adV {nx:List Int} {A:List Int} {a i m v:Int} (hn:(A ++ [a]).Nodup) (h:Seg nx i (A ++ [a]) m):Seg (nx.set a.toNat v) i (A ++ [a]) v:=by
 obtain⟨k,h1,h2⟩:=yc.1 h
 obtain⟨e,b,_⟩:=h2
 have ha:a∉A:=fun hm=>by
  rw[List.nodup_append] at hn
  exact hn.2.2 a hm a (by simp) rfl
 refine yc.2 ⟨k,nO (by rw[show((a.toNat:Nat):Int)=a by omega];exact ha) h1,e,by rw[List.length_set];exact b,?_⟩
 rw[aN (by omega)];rfl
theorem gU {nx:List Int}:∀ {A:List Int} {i m:Int},Seg nx i A m→∀ x∈A,0≤x∧x<(nx.length:Int)
 |[],_,_,_=>by simp
 |y::A,i,m,⟨_,b,c⟩=>fun x hx=>by
  rcases List.mem_cons.1 hx with e | e
  ·subst e;exact b
  ·exact gU c x e
theorem Bg {nx:List Int} {A:List Int} {i:Int} (h:Seg nx i A (-1)):A=[]∧i=-1∨∃ B,A=i::B:=by
 cases A with
 |nil=>exact .inl ⟨rfl,h⟩
 |cons x B=>obtain⟨a,_⟩:=h;subst a;exact .inr ⟨B,rfl⟩
theorem NC {nx:List Int}:∀ {d:Nat} {i:Int} {t l:List Int},Seg nx i t (-1)→(l ++ t).Nodup→t.length<d→chain nx d i l=some (l ++ t)
 |0,_,_,_,_,_,h=>by omega
 |d+1,i,[],l,h,_,_=>by
  simp only[chain];rw[if_pos (show i=-1 from h),List.append_nil]
 |d+1,i,x::t,l,⟨a,b,s⟩,hn,hd=>by
  subst a
  simp only[chain]
  have hi:i∉l:=fun hm=>by
   rw[List.nodup_append] at hn
   exact hn.2.2 i hm i (by simp) rfl
  rw[if_neg (by omega),if_neg (by rintro(c | c | c)<;>first | omega | exact hi c)]
  rw[NC s (by rw[List.append_assoc];exact hn) (by simp only[List.length_cons] at hd;omega),List.append_assoc];rfl
theorem mJ {nx:List Int} {f:Int} {t:List Int} (h:Seg nx f t (-1)) (ho:QU nx.length t):bM nx f=t∧KU nx f=true:=by
 have:=NC (l:=[]) h ho.1 (d:=nx.length+1) (by have:=jE ho;omega)
 unfold bM KU;rw[this];exact⟨rfl,rfl⟩
def Ar (nx:List Int) (us:List Bool) (f:Int) (F:List Int):Prop:=
 1≤nx.length∧nx.length≤16∧us.length=nx.length∧F.Nodup∧Seg nx f F (-1)∧∀ i,i<nx.length→us.getD i false=!decide ((i:Int)∈F)∧(us.getD i false=true→nx.getD i 0=-1)
theorem Hu {nx:List Int} {us:List Bool} {f:Int} {F:List Int} (h:Ar nx us f F):QU nx.length F:=⟨h.2.2.2.1,gU h.2.2.2.2.1⟩
theorem Yk {nx:List Int} {us:List Bool} {f:Int} {F:List Int} (h:Ar nx us f F):ku nx us f=0:=by
 obtain⟨e1,e2⟩:=mJ h.2.2.2.2.1 (Hu h)
 obtain⟨c1,c2,c3,c4,c5,c6⟩:=h
 unfold ku
 rw[if_pos ⟨c1,c2,c3,e2⟩,if_pos]
 rw[dZ]
 intro j _ hj
 obtain⟨g1,g2⟩:=c6 j (by omega)
 unfold tV inB
 rw[e1]
 cases u:us.getD j false with
 |true=>
  rw[u] at g1 g2
  rw[g2 rfl]
  have:decide ((j:Int)∈F)=false:=by cases d:decide ((j:Int)∈F)<;>simp[d] at g1 ⊢
  rw[this];rfl
 |false=>
  rw[u] at g1
  have:decide ((j:Int)∈F)=true:=by cases d:decide ((j:Int)∈F)<;>simp[d] at g1 ⊢
  rw[this];rfl
theorem MB {nx:List Int} {us:List Bool}:∀ {d:Nat} {i:Int} {ys ys':List Bool} {l:List Int},MN nx.length us ys l→qm nx d i ys=some ys'→
  (l.Nodup)→∃ t,Seg nx i t (-1)∧(l ++ t).Nodup∧(∀ x∈t,us.getD x.toNat false=false)∧MN nx.length us ys' (l ++ t)
 |0,_,_,_,_,_,h,_=>by cases h
 |d+1,i,ys,ys',l,hs,h,hn=>by
  simp only[qm] at h
  split at h
  next c=>simp only[Option.some.injEq] at h;subst h;exact⟨[],c,by simpa using hn,by simp,by simpa using hs⟩
  next c=>
   split at h
   ·cases h
   next c2=>
    have i0:0≤i:=by omega
    have i1:i<(nx.length:Int):=by omega
    have hy:ys.getD i.toNat false=false:=by
     cases y:ys.getD i.toNat false with
     |false=>rfl
     |true=>exact absurd (.inr (.inr y)) c2
    have hq:=hs.2 i.toNat (by omega)
    rw[hy,show((i.toNat:Nat):Int)=i by omega] at hq
    have hq2:=hq.symm
    rw[Bool.or_eq_false_iff,decide_eq_false_iff_not] at hq2
    have hn2:(l ++ [i]).Nodup:=by
     rw[List.nodup_append]
     exact⟨hn,by simp,fun a ha b hb e=>by simp at hb;subst hb;subst e;exact hq2.2 ha⟩
    obtain⟨t,s1,s2,s3,s4⟩:=MB (NQ hs i0 i1) h hn2
    rw[List.append_assoc] at s2 s4
    refine⟨i::t,⟨rfl,⟨i0,i1⟩,s1⟩,s2,fun x hx=>?_,s4⟩
    rcases List.mem_cons.1 hx with e | e
    ·subst e;exact hq2.1
    ·exact s3 x e
theorem Qw {nx:List Int} {us:List Bool} {f:Int} (h:rq nx us f=0):∃ F,Ar nx us f F:=by
 unfold rq at h;split at h
 next c=>
  obtain⟨c1,c2,c3⟩:=c
  split at h
  next ys w=>
   split at h
   next g=>
    obtain⟨t,s1,s2,s3,s4⟩:=MB (us:=us) (l:=[]) ⟨by omega,fun j hj=>by simp⟩ w (by simp)
    rw[List.nil_append] at s2 s4
    refine⟨t,c1,c2,c3,s2,s1,fun i hi=>?_⟩
    have g1:=(dZ _ _).1 g i (by omega) (by omega)
    have g2:=s4.2 i hi
    unfold Kr at g1
    rw[Bool.or_eq_false_iff] at g1
    have g3:ys.getD i false=true:=by simpa using g1.1
    rw[g3] at g2
    constructor
    ·cases u:us.getD i false with
     |false=>
      rw[u,Bool.false_or] at g2
      rw[←g2];rfl
     |true=>
      have:(i:Int)∉t:=fun hm=>by
       have:=s3 _ hm
       rw[show((i:Int).toNat)=i by omega,u] at this;cases this
      simp[this]
    ·intro u
     have:=g1.2
     rw[u,Bool.true_and] at this
     simpa using this
   next=>cases h
  next=>cases h
 next=>cases h
def Back (ps:List Int):Int→List Int→Prop
 |_,[]=>True
 |la,x::l=>ps.getD x.toNat 0=la∧Back ps x l
def lW (la:Int):List Int→Int
 |[]=>la
 |x::l=>lW x l
theorem mZ (la a:Int):∀ A:List Int,lW la (A ++ [a])=a
 |[]=>rfl
 |x::A=>mZ x a A
theorem zO:∀ (A B:List Int) (la:Int),lW la (A ++ B)=lW (lW la A) B
 |[],_,_=>rfl
 |x::A,B,la=>zO A B x
theorem Bl {ps:List Int}:∀ {A B:List Int} {la:Int},Back ps la (A ++ B)↔Back ps la A∧Back ps (lW la A) B
 |[],B,la=>⟨fun h=>⟨trivial,h⟩,fun h=>h.2⟩
 |x::A,B,la=>by
  simp only[List.cons_append,Back,lW,Bl]
  exact⟨fun⟨a,b,c⟩=>⟨⟨a,b⟩,c⟩,fun⟨⟨a,b⟩,c⟩=>⟨a,b,c⟩⟩
theorem oC {ps:List Int} {p:Nat} {v:Int}:∀ {A:List Int} {la:Int},(p:Int)∉A→(∀ x∈A,0≤x)→Back ps la A→Back (ps.set p v) la A
 |[],_,_,_,_=>trivial
 |x::A,la,hp,h0,⟨a,b⟩=>by
  simp only[List.mem_cons,not_or] at hp
  have:=h0 x (by simp)
  refine⟨?_,oC hp.2 (fun y hy=>h0 y (by simp[hy])) b⟩
  rw[getD_set_ne (by omega)];exact a
def Or (ps no:List Int) (h t:Int) (L:List Int):Prop:=
 1≤ps.length∧ps.length≤16∧no.length=ps.length∧L.Nodup∧Seg no h L (-1)∧Back ps (-1) L∧t=lW (-1) L∧∀ i,i<ps.length→(i:Int)∉L→ps.getD i 0=-1∧no.getD i 0=-1
theorem jV {ps no:List Int} {h t:Int} {L:List Int} (o:Or ps no h t L):QU no.length L:=⟨o.2.2.2.1,gU o.2.2.2.2.1⟩
theorem U4 {ps nx:List Int} (hn:nx.length=ps.length):∀ {d:Nat} {la i:Int} {ys:List Bool} {q:Int×List Bool} {l:List Int},sS nx.length ys l→lm ps nx d la i ys=some q→l.Nodup→
  ∃ t,Seg nx i t (-1)∧(l ++ t).Nodup∧Back ps la t∧q.1=lW la t∧sS nx.length q.2 (l ++ t)
 |0,_,_,_,_,_,_,h,_=>by cases h
 |d+1,la,i,ys,q,l,hs,h,hd=>by
  simp only[lm] at h
  split at h
  next c=>simp only[Option.some.injEq] at h;subst h;exact⟨[],c,by simpa using hd,trivial,rfl,by simpa using hs⟩
  next c=>
   split at h
   ·cases h
   next c2=>
    have i0:0≤i:=by omega
    have i1:i<(nx.length:Int):=by omega
    have hy:ys.getD i.toNat false=false:=by
     cases y:ys.getD i.toNat false with
     |false=>rfl
     |true=>exact absurd (.inr (.inr (.inl y))) c2
    have hp:ps.getD i.toNat 0=la:=Classical.byContradiction fun n=>c2 (.inr (.inr (.inr n)))
    have hq:=hs.2 i.toNat (by omega)
    rw[hy,show((i.toNat:Nat):Int)=i by omega] at hq
    have hq2:=hq.symm
    rw[decide_eq_false_iff_not] at hq2
    have hn2:(l ++ [i]).Nodup:=by
     rw[List.nodup_append]
     exact⟨hd,by simp,fun a ha b hb e=>by simp at hb;subst hb;subst e;exact hq2 ha⟩
    obtain⟨t,s1,s2,s3,s4,s5⟩:=U4 hn (zA hs i0 i1) h hn2
    rw[List.append_assoc] at s2 s5
    exact⟨i::t,⟨rfl,⟨i0,i1⟩,s1⟩,s2,⟨hp,s3⟩,s4,s5⟩
theorem OQ {ps nx:List Int} {h t:Int} (e:pG ps nx h t=0):∃ L,Or ps nx h t L:=by
 obtain⟨c1,c2,c3,la,ys,w,g,e2⟩:=Ac e
 rw[←c3] at w
 obtain⟨L,s1,s2,s3,s4,s5⟩:=U4 c3 (zk _) w (by simp)
 rw[List.nil_append] at s2 s5
 refine⟨L,c1,c2,c3,s2,s1,s3,by rw[e2];exact s4,fun i hi hm=>?_⟩
 have g1:=(dZ _ _).1 g i (by omega) (by omega)
 have g2:=s5.2 i (by omega)
 rw[decide_eq_false hm] at g2
 simp only at g2
 unfold Ey at g1
 rw[g2] at g1
 simpa using g1
theorem Yv {n:Nat} {xs:List Int} (h:QU n xs):∀ m,m≤xs.length→∀ k,k+1<m→(zh n xs m).getD (xs.getD k 0).toNat 0=xs.getD (k+1) 0
 |0,_=>fun k hk=>by omega
 |m+1,hm=>fun k hk=>by
  have i2:=Yv h m (by omega)
  have c:m≠0:=by omega
  simp only[zh,if_neg c]
  have bm:=rW h (i:=m - 1) (by omega)
  have bk:=rW h (i:=k) (by omega)
  by_cases e:k=m - 1
  ·subst e
   rw[aN (by rw[AU];omega),show m - 1+1=m by omega]
  ·rw[getD_set_ne (fun q=>e (oz h.1 (by omega) (by omega) (by omega))),i2 k (by omega)]
theorem Y8 {nx:List Int}:∀ {L:List Int} {i:Int},Seg nx i L (-1)→(i=if L.length=0 then -1 else L.getD 0 0)∧∀ k,k<L.length→nx.getD (L.getD k 0).toNat 0=if k+1<L.length then L.getD (k+1) 0 else -1
 |[],i,h=>⟨h,fun k hk=>by simp at hk⟩
 |x::L,i,⟨a,b,s⟩=>by
  obtain⟨g1,g2⟩:=Y8 s
  refine⟨by simp[a],fun k hk=>?_⟩
  cases k with
  |zero=>
   rw[show(x::L).getD 0 0=x from rfl,g1]
   cases L<;>simp
  |succ k=>
   have:=g2 k (by simpa using hk)
   rw[show(x::L).getD (k+1) 0=L.getD k 0 from rfl,this]
   simp
theorem SN {ps:List Int}:∀ {L:List Int} {la:Int},Back ps la L→∀ k,k<L.length→ps.getD (L.getD k 0).toNat 0=if k=0 then la else L.getD (k - 1) 0
 |[],_,_=>fun k hk=>by simp at hk
 |x::L,la,⟨a,b⟩=>fun k hk=>by
  cases k with
  |zero=>exact a
  |succ k=>
   have:=SN b k (by simpa using hk)
   rw[show(x::L).getD (k+1) 0=L.getD k 0 from rfl,this]
   cases k<;>simp
theorem J8:∀ {L:List Int} {la:Int},lW la L=if L.length=0 then la else L.getD (L.length - 1) 0
 |[],_=>rfl
 |x::L,la=>by
  simp only[lW]
  rw[J8]
  cases L<;>simp
theorem Uw {a b:List Int} (hl:a.length=b.length) (h:∀ j,j<a.length→a.getD j 0=b.getD j 0):a=b:=by
 apply List.ext_getElem hl
 intro j h1 h2
 have:=h j h1
 rwa[List.getD_eq_getElem?_getD,List.getD_eq_getElem?_getD,List.getElem?_eq_getElem h1,List.getElem?_eq_getElem h2] at this
theorem Td {L:List Int} {x:Int} (h:x∈L):∃ k,k<L.length∧L.getD k 0=x:=by
 obtain⟨k,hk,e⟩:=List.getElem_of_mem h
 exact⟨k,hk,by rw[List.getD_eq_getElem?_getD,List.getElem?_eq_getElem hk];exact e⟩
theorem getD_mem {L:List Int} {k:Nat} (h:k<L.length):L.getD k 0∈L:=by
 rw[List.getD_eq_getElem?_getD,List.getElem?_eq_getElem h];exact List.getElem_mem h
theorem adG {ps no:List Int} {h t:Int} {L:List Int} (o:Or ps no h t L):ps=Ad ps.length L L.length∧no=zh ps.length L L.length∧h=U9 L L.length∧t=IK L L.length:=by
 have ho:=jV o
 obtain⟨c1,c2,c3,c4,c5,c6,c7,c8⟩:=o
 rw[c3] at ho
 obtain⟨p1,p2⟩:=WM ho _ (Nat.le_refl _)
 have n1:=Yv ho _ (Nat.le_refl _)
 have n2:=WE ho _ (Nat.le_refl _)
 have bg:=SN c6
 obtain⟨sh,sg⟩:=Y8 c5
 refine⟨Uw (by rw[AB]) fun j hj=>?_,Uw (by rw[AU];exact c3) fun j hj=>?_,?_,?_⟩
 ·by_cases m:(j:Int)∈L
  ·obtain⟨k,hk,e⟩:=Td m
   have b:=bg k hk
   rw[e,show(j:Int).toNat=j by omega] at b
   rw[b]
   by_cases k0:k=0
   ·subst k0
    rw[if_pos rfl]
    symm;exact p2 j hj fun k' a b' q=>by
     have:=oz ho.1 b' hk (by omega);omega
   ·rw[if_neg k0]
    have:=p1 k (by omega) hk
    rw[e,show(j:Int).toNat=j by omega] at this
    exact this.symm
  ·rw[(c8 j hj m).1]
   symm;exact p2 j hj fun k' a b' q=>m (by rw[←q];exact getD_mem b')
 ·rw[c3] at hj
  by_cases m:(j:Int)∈L
  ·obtain⟨k,hk,e⟩:=Td m
   have b:=sg k hk
   rw[e,show(j:Int).toNat=j by omega] at b
   rw[b]
   by_cases k1:k+1<L.length
   ·rw[if_pos k1]
    have:=n1 k k1
    rw[e,show(j:Int).toNat=j by omega] at this
    exact this.symm
   ·rw[if_neg k1]
    symm;exact n2 j hj fun k' a q=>by
     have:=oz ho.1 (by omega) hk (show L.getD k' 0=L.getD k 0 by omega);omega
  ·rw[(c8 j hj m).2]
   symm;exact n2 j hj fun k' a q=>m (by rw[←q];exact getD_mem (by omega))
 ·unfold U9;exact sh
 ·unfold IK;rw[c7];exact J8
theorem VP {ps no:List Int} {h t:Int} {L:List Int} (o:Or ps no h t L):lJ ps no h t=0:=by
 obtain⟨e1,e2,e3,e4⟩:=adG o
 obtain⟨g1,g2⟩:=mJ o.2.2.2.2.1 (jV o)
 have b:=jV o
 obtain⟨c1,c2,c3,_⟩:=o
 unfold lJ
 rw[if_pos]
 refine⟨c1,c2,c3,g2,?_⟩
 unfold adh FX Rq
 rw[g1,←e1,←e2,←e3,←e4]
 simp
theorem UL {ps no:List Int} {h t:Int} {L:List Int} (o:Or ps no h t L):pG ps no h t=0:=Xc (VP o)
theorem RQ {nx:List Int} {us:List Bool} {f:Int} {F:List Int} (h:Ar nx us f F):rq nx us f=0:=V8 (Yk h)
theorem amM (nx:List Int) (us:List Bool) (f:Int):rq nx us f=0↔ku nx us f=0:=
 ⟨fun h=>by obtain⟨F,a⟩:=Qw h;exact Yk a,V8⟩
theorem al5 (ps no:List Int) (h t:Int):pG ps no h t=0↔lJ ps no h t=0:=
 ⟨fun e=>by obtain⟨L,a⟩:=OQ e;exact VP a,Xc⟩
def anR:Tr D:= .s ((16:Int)≤(1099511627776:Int)) (.s ((384:Int)≤(1099511627776:Int)) (.q ((16:Int)) (.q (true) (.q ((16:Nat)) (.lf (D.oc [.ints .u32 (List.replicate 16 0), .ints .i64 (List.replicate 16 0), .bools (List.replicate 16 false)]))))))
theorem aeC (res:D) (h0:Az res (anR) []):Kl 81 [] res:=fA (adX) anR h0
def aoi (nx:List Int) (us:List Bool) (f:Int):Tr D:= .s (nx.length≤200) (.s (us.length≤200) (.q (af [.bools us]) (.q (af [.ints .i64 nx]) (.lf (D.agg [D.oc [.ints .i64 nx],D.oc [.bools us],i64 f])))))
theorem adx (nx:List Int) (us:List Bool) (f:Int) (res:D) (h0:Az res (aoi nx us f) []):Kl 120 [D.agg [ri nx,rb us,i64 f]] res:=fA (adX) (aoi nx us f) h0
def aoy (ps no:List Int) (h t:Int):Tr D:= .s (ps.length≤200) (.s (no.length≤200) (.q (af [.ints .i64 no]) (.q (af [.ints .i64 ps]) (.lf (D.agg [D.oc [.ints .i64 ps],D.oc [.ints .i64 no],i64 h,i64 t])))))
theorem afh (ps no:List Int) (h t:Int) (res:D) (h0:Az res (aoy ps no h t) []):Kl 127 [D.agg [ri ps,ri no,i64 h,i64 t]] res:=fA (adX) (aoy ps no h t) h0
def adU (ps no:List Int) (h t:Int):Tr D:= .e (ah .neq (pG ps no h t) 0) (.lf (D.aS [i64 0,i64 (pG ps no h t)])) (.e (ah .eql t (-1)) (.lf (D.aS [i64 0,i64 6])) (.lf (D.aS [i64 t,i64 0])))
theorem aeK (ps no:List Int) (h t:Int) (res:D) (h0:Az res (adU ps no h t) [true]) (h1:Az res (adU ps no h t) [false,true]) (h2:Az res (adU ps no h t) [false,false]):Kl 63 [D.agg [ri ps,ri no,i64 h,i64 t]] res:=fA (adX) (adU ps no h t) ⟨h0,fun e0=>⟨h1 e0,h2 e0⟩⟩
def zc1:List Int:=List.replicate 16 0
def zc2:List Bool:=List.replicate 16 false
theorem anS:Kl 81 [] (cco zc1 zc1 zc2):=aeC _ ⟨⟨by omega,by omega,trivial⟩,rfl⟩
def pnC:List D→Option (D×List Prop)
 |[]=>some (cco zc1 zc1 zc2,[])
 |_=>none
theorem ams (args res l) (h:pnC args=some (res,l)) (hl:aJ l):Kl 81 args res:=by
 unfold pnC at h;split at h
 ·obtain⟨rfl,rfl⟩:=dB h
  exact anS
 ·cases h
theorem aoR (nx:List Int) (us:List Bool) (f:Int) (h:nx.length≤200∧us.length≤200):Kl 120 [.agg [ri nx,rb us,i64 f]] (.agg [oi nx,ob us,i64 f]):=adx nx us f _ ⟨⟨h.2,h.1,trivial⟩,rfl⟩
theorem aoC (ps no:List Int) (h t:Int) (hl:ps.length≤200∧no.length≤200):Kl 127 [.agg [ri ps,ri no,i64 h,i64 t]] (.agg [oi ps,oi no,i64 h,i64 t]):=afh ps no h t _ ⟨⟨hl.2,hl.1,trivial⟩,rfl⟩
def nM (ps no:List Int) (h t:Int):Int:=if pG ps no h t=0 then(if t=-1 then 0 else t) else 0
def laE (ps no:List Int) (h t:Int):Int:=if pG ps no h t=0 then(if t=-1 then 6 else 0) else pG ps no h t
theorem anD (ps no:List Int) (h t:Int):Kl 63 [.agg [ri ps,ri no,i64 h,i64 t]] (.aS [i64 (nM ps no h t),i64 (laE ps no h t)]):=by
 unfold nM laE
 refine aeK ps no h t _ ?_ ?_ ?_<;>dsimp only[Az,Rg,At,Tr.q,Tr.e,adU]
 ·intro g;rw[aI] at g;exact⟨trivial,by rw[if_neg g,if_neg g]⟩
 ·intro g g2;rw[aQ] at g;rw[bY] at g2;exact⟨trivial,by rw[if_pos g,if_pos g,if_pos g2,if_pos g2]⟩
 ·intro g g2;rw[aQ] at g;rw[bV] at g2;exact⟨trivial,by rw[if_pos g,if_pos g,if_neg g2,if_neg g2]⟩
def awC:List D→Option (D×List Prop)
 |[.agg [.rc [.ints .i64 nx], .rc [.bools us], .v (.int .i64 f)]]=>some ((.agg [oi nx,ob us,i64 f]),[nx.length≤200∧us.length≤200])
 |_=>none
theorem amR (args res l) (h:awC args=some (res,l)) (hl:aJ l):Kl 120 args res:=by
 unfold awC at h;split at h
 ·obtain⟨rfl,rfl⟩:=dB h;obtain⟨h0,_⟩:=hl
  exact aoR _ _ _ h0
 ·cases h
def lwC:List D→Option (D×List Prop)
 |[.agg [.rc [.ints .i64 ps], .rc [.ints .i64 nx], .v (.int .i64 h), .v (.int .i64 t)]]=>some ((.agg [oi ps,oi nx,i64 h,i64 t]),[ps.length≤200∧nx.length≤200])
 |_=>none
theorem Xo (args res l) (h:lwC args=some (res,l)) (hl:aJ l):Kl 127 args res:=by
 unfold lwC at h;split at h
 ·obtain⟨rfl,rfl⟩:=dB h;obtain⟨h0,_⟩:=hl
  exact aoC _ _ _ _ h0
 ·cases h
def laC:List D→Option (D×List Prop)
 |[.agg [.rc [.ints .i64 ps], .rc [.ints .i64 nx], .v (.int .i64 h), .v (.int .i64 t)]]=>some ((.aS [i64 (nM ps nx h t),i64 (laE ps nx h t)]),[])
 |_=>none
theorem al2 (args res l) (h:laC args=some (res,l)) (hl:aJ l):Kl 63 args res:=by
 unfold laC at h;split at h
 ·obtain⟨rfl,rfl⟩:=dB h
  exact anD _ _ _ _
 ·cases h
def X12:aB:=aF 81 (.call pnC) (aF 120 (.call awC) (aF 127 (.call lwC) (aF 63 (.call laC) X11)))
theorem ach:bT Pg X12:=aj ams (aj amR (aj Xo (aj al2 adX)))
def VJ (nx:List Int) (us:List Bool) (f:Int):Tr D:= .s (us.length≤200) (.e (ah .neq (rq nx us f) 0) (.lf (D.aS [D.agg [bZ,bZ,i64 0],i64 0,i64 (rq nx us f)])) (.e (ah .eql f (-1)) (.lf (D.aS [D.agg [bZ,bZ,i64 0],i64 0,i64 18])) (.s (nx.length≤200∧us.length≤200) (.s (decide (f<(nx.length:Int))=true) (.s (decide (0≤f)=true) (.s (decide (f<(nx.length:Int))=true) (.s (decide (0≤f)=true) (.s (nx.length=nx.length) (.s (f.toNat<nx.length) (.s (decide (f<(us.length:Int))=true) (.s (decide (0≤f)=true) (.s (us.length=us.length) (.s (f.toNat<us.length) (.s (us.length=(us.set f.toNat true).length) (.s (nx.length=(nx.set f.toNat (-1)).length) (.lf (D.aS [D.agg [D.oc [.ints .i64 (nx.set f.toNat (-1))],D.oc [.bools (us.set f.toNat true)],i64 (nx.getD f.toNat 0)],i64 f,i64 0])))))))))))))))))
theorem He (nx:List Int) (us:List Bool) (f:Int) (res:D) (h0:Az res (VJ nx us f) [true]) (h1:Az res (VJ nx us f) [false,true]) (h2:Az res (VJ nx us f) [false,false]):Kl 62 [D.agg [ri nx,rb us,i64 f]] res:=fA (ach) (VJ nx us f) ⟨h0,fun e0=>⟨h1 e0,h2 e0⟩⟩
def SA (nx:List Int) (us:List Bool) (f p:Int):Tr D:= .s (us.length≤200) (.e (ah .neq (rq nx us f) 0) (.lf (D.aS [D.agg [bZ,bZ,i64 0],i64 (rq nx us f)])) (.e (ah .lss p 0) (.p (.c 4) (.lf (D.aS [D.agg [bZ,bZ,i64 0],i64 2]))) (.p (.c 3) (.e (ah .geq p (nx.length:Int)) (.lf (D.aS [D.agg [bZ,bZ,i64 0],i64 2])) (.s (decide (p<(us.length:Int))=true) (.s (decide (0≤p)=true) (.e (!us.getD p.toNat false) (.lf (D.aS [D.agg [bZ,bZ,i64 0],i64 36])) (.s (nx.length≤200∧us.length≤200) (.s (decide (p<(nx.length:Int))=true) (.s (decide (0≤p)=true) (.s (nx.length=nx.length) (.s (p.toNat<nx.length) (.s (decide (p<(us.length:Int))=true) (.s (decide (0≤p)=true) (.s (us.length=us.length) (.s (p.toNat<us.length) (.s (us.length=(us.set p.toNat false).length) (.s (nx.length=(nx.set p.toNat f).length) (.lf (D.aS [D.agg [D.oc [.ints .i64 (nx.set p.toNat f)],D.oc [.bools (us.set p.toNat false)],i64 p],i64 0]))))))))))))))))))))
theorem UX (nx:List Int) (us:List Bool) (f p:Int) (res:D) (h0:Az res (SA nx us f p) [true]) (h1:Az res (SA nx us f p) [false,true]) (h2:Az res (SA nx us f p) [false,false,true]) (h3:Az res (SA nx us f p) [false,false,false,true]) (h4:Az res (SA nx us f p) [false,false,false,false]):Kl 124 [D.agg [ri nx,rb us,i64 f],i64 p] res:=fA (ach) (SA nx us f p) ⟨h0,fun e0=>⟨h1 e0,fun e1=>⟨h2 e0 e1,fun e2=>⟨h3 e0 e1 e2,h4 e0 e1 e2⟩⟩⟩⟩
theorem adR {nx:List Int} {us:List Bool} {f:Int} (h:rq nx us f=0):1≤nx.length∧nx.length≤16∧us.length=nx.length∧∃ ys,qm nx (nx.length+1) f us=some ys:=by
 unfold rq at h;split at h
 next c=>
  split at h
  next ys e=>exact⟨c.1,c.2.1,c.2.2,ys,e⟩
  next=>cases h
 next=>cases h
theorem aas {nx:List Int} {us:List Bool} {f:Int} (h:rq nx us f=0) (hf:f≠-1):0≤f∧f<(nx.length:Int):=by
 obtain⟨_,_,_,ys,e⟩:=adR h
 simp only[qm,if_neg hf] at e
 split at e
 ·cases e
 next c=>omega
def gu (nx:List Int) (us:List Bool) (f:Int):Prop:=rq nx us f=0∧f≠-1
instance (nx:List Int) (us:List Bool) (f:Int):Decidable (gu nx us f):=by unfold gu;exact inferInstance
def tkE (nx:List Int) (us:List Bool) (f:Int):Int:=if rq nx us f=0 then(if f=-1 then 18 else 0) else rq nx us f
theorem nilA (e:Int):jW (D.agg [D.v (Value.slice none 0 0),D.v (Value.slice none 0 0),i64 e]) (.agg [oi [],ob [],i64 e]):=bH.agg (.cons (.nil rfl) (.cons (.nil rfl) (.refl _)))
theorem aok (nx:List Int) (us:List Bool) (f:Int) (h:us.length≤200∧nx.length≤200):Kl 62 [.agg [ri nx,rb us,i64 f]]
  (.aS [.agg [oi (if gu nx us f then nx.set f.toNat (-1) else[]),ob (if gu nx us f then us.set f.toNat true else[]),i64 (if gu nx us f then nx.getD f.toNat 0 else 0)],i64 (if gu nx us f then f else 0),i64 (tkE nx us f)]):=by
 obtain⟨h,hn⟩:=h
 unfold tkE
 by_cases c:rq nx us f=0
 ·rw[if_pos c]
  by_cases c2:f=-1
  ·have hO:¬ gu nx us f:=fun o=>o.2 c2
   simp only[if_neg hO,if_pos c2]
   refine bf (bH.aS (.cons (nilA 0) (.refl _))) ?_
   refine He nx us f _ ?_ ?_ ?_<;>dsimp only[Az,Rg,At,Tr.q,Tr.e,VJ]
   ·intro g;rw[aI] at g;exact absurd c g
   ·intro _ _;exact⟨⟨h,trivial⟩,rfl⟩
   ·intro _ g;rw[bV] at g;exact absurd c2 g
  ·have hO:gu nx us f:=⟨c,c2⟩
   simp only[if_pos hO,if_neg c2]
   obtain⟨f0,f1⟩:=aas c c2
   have hl:=xR c
   refine He nx us f _ ?_ ?_ ?_<;>dsimp only[Az,Rg,At,Tr.q,Tr.e,VJ]
   ·intro g;rw[aI] at g;exact absurd c g
   ·intro _ g;rw[bY] at g;exact absurd g c2
   ·intro _ _
    exact⟨⟨by rw[List.length_set],by rw[List.length_set],by omega,rfl,decide_eq_true f0,decide_eq_true (by omega),by omega,rfl,decide_eq_true f0,decide_eq_true f1,decide_eq_true f0,decide_eq_true f1,⟨hn,h⟩,h,trivial⟩,rfl⟩
 ·have hO:¬ gu nx us f:=fun o=>c o.1
  simp only[if_neg hO,if_neg c]
  refine bf (bH.aS (.cons (nilA 0) (.refl _))) ?_
  refine He nx us f _ ?_ ?_ ?_<;>dsimp only[Az,Rg,At,Tr.q,Tr.e,VJ]
  ·intro _;exact⟨⟨h,trivial⟩,rfl⟩
  ·intro g;rw[aQ] at g;exact absurd g c
  ·intro g;rw[aQ] at g;exact absurd g c
def CJ (nx:List Int) (us:List Bool) (f p:Int):Prop:=rq nx us f=0∧0≤p∧p<(nx.length:Int)∧us.getD p.toNat false=true
instance (nx:List Int) (us:List Bool) (f p:Int):Decidable (CJ nx us f p):=by unfold CJ;exact inferInstance
def gvE (nx:List Int) (us:List Bool) (f p:Int):Int:=if rq nx us f=0 then(if 0≤p∧p<(nx.length:Int) then(if us.getD p.toNat false=true then 0 else 36) else 2) else rq nx us f
theorem aoB (nx:List Int) (us:List Bool) (f p:Int) (h:us.length≤200∧nx.length≤200):Kl 124 [.agg [ri nx,rb us,i64 f],i64 p]
  (.aS [.agg [oi (if CJ nx us f p then nx.set p.toNat f else[]),ob (if CJ nx us f p then us.set p.toNat false else[]),i64 (if CJ nx us f p then p else 0)],i64 (gvE nx us f p)]):=by
 obtain⟨h,hn⟩:=h
 by_cases hO:CJ nx us f p
 ·have hO':=hO
  obtain⟨c,p0,p1,hu⟩:=hO'
  have hl:=xR c
  have hE:gvE nx us f p=0:=by unfold gvE;rw[if_pos c,if_pos ⟨p0,p1⟩,if_pos hu]
  simp only[if_pos hO];rw[hE]
  refine UX nx us f p _ ?_ ?_ ?_ ?_ ?_<;>dsimp only[Az,Rg,At,Tr.q,Tr.e,SA]
  ·intro g;rw[aI] at g;exact absurd c g
  ·intro _ g;rw[aP] at g;omega
  ·intro _ _ g;rw[dV] at g;omega
  ·intro _ _ _ g;rw[hu] at g;cases g
  ·intro _ _ _ _
   exact⟨⟨by rw[List.length_set],by rw[List.length_set],by omega,rfl,decide_eq_true p0,decide_eq_true (by omega),by omega,rfl,decide_eq_true p0,decide_eq_true p1,⟨hn,h⟩,decide_eq_true p0,decide_eq_true (by omega),h,trivial⟩,rfl⟩
 ·simp only[if_neg hO]
  refine bf (bH.aS (.cons (nilA 0) (.refl _))) ?_
  unfold gvE
  refine UX nx us f p _ ?_ ?_ ?_ ?_ ?_<;>dsimp only[Az,Rg,At,Tr.q,Tr.e,SA]
  ·intro g;rw[aI] at g;exact⟨⟨h,trivial⟩,by rw[if_neg g]⟩
  ·intro g g2;rw[aQ] at g;rw[aP] at g2;exact⟨⟨h,trivial⟩,by rw[if_pos g,if_neg (by omega)]⟩
  ·intro g g2 g3;rw[aQ] at g;rw[dV] at g3;exact⟨⟨h,trivial⟩,by rw[if_pos g,if_neg (by omega)]⟩
  ·intro g g2 g3 g4
   rw[aQ] at g;rw[aX] at g2;rw[dS] at g3
   have hl:=xR g
   have g4':us.getD p.toNat false=false:=by simpa using g4
   exact⟨⟨decide_eq_true (by omega),decide_eq_true (by omega),h,trivial⟩,by rw[if_pos g,if_pos (by omega),if_neg (by rw[g4'];simp)]⟩
  ·intro g g2 g3 g4
   rw[aQ] at g;rw[aX] at g2;rw[dS] at g3
   exact absurd ⟨g,by omega,by omega,by simpa using g4⟩ hO
def tkC:List D→Option (D×List Prop)
 |[.agg [.rc [.ints .i64 nx], .rc [.bools us], .v (.int .i64 f)]]=>some ((.aS [.agg [oi (if gu nx us f then nx.set f.toNat (-1) else[]),ob (if gu nx us f then us.set f.toNat true else[]),i64 (if gu nx us f then nx.getD f.toNat 0 else 0)],i64 (if gu nx us f then f else 0),i64 (tkE nx us f)]),[us.length≤200∧nx.length≤200])
 |_=>none
theorem alQ (args res l) (h:tkC args=some (res,l)) (hl:aJ l):Kl 62 args res:=by
 unfold tkC at h;split at h
 ·obtain⟨rfl,rfl⟩:=dB h;obtain⟨h0,_⟩:=hl
  exact aok _ _ _ h0
 ·cases h
def gvC:List D→Option (D×List Prop)
 |[.agg [.rc [.ints .i64 nx], .rc [.bools us], .v (.int .i64 f)], .v (.int .i64 p)]=>some ((.aS [.agg [oi (if CJ nx us f p then nx.set p.toNat f else[]),ob (if CJ nx us f p then us.set p.toNat false else[]),i64 (if CJ nx us f p then p else 0)],i64 (gvE nx us f p)]),[us.length≤200∧nx.length≤200])
 |_=>none
theorem ak1 (args res l) (h:gvC args=some (res,l)) (hl:aJ l):Kl 124 args res:=by
 unfold gvC at h;split at h
 ·obtain⟨rfl,rfl⟩:=dB h;obtain⟨h0,_⟩:=hl
  exact aoB _ _ _ _ h0
 ·cases h
def Fp (ps no:List Int) (p:Int):=(ps.set (no.getD p.toNat 0).toNat (ps.getD p.toNat 0)).set p.toNat (-1)
def Fz (ps no:List Int) (p:Int):=(no.set (ps.getD p.toNat 0).toNat (no.getD p.toNat 0)).set p.toNat (-1)
def Ae (ps no:List Int) (h t p:Int):Tr D:= .d (ah .neq (pG ps no h t) 0) (fun e0=> .p (.d true) (.k _ e0 (.lf (D.aS [D.agg [bZ,bZ,i64 0,i64 0],i64 (pG ps no h t)])))) (fun e0=> .e (ah .lss p 0) (.p (.c 5) (.lf (D.aS [D.agg [bZ,bZ,i64 0,i64 0],i64 2]))) (.p (.c 3) (.e (ah .geq p (ps.length:Int)) (.p (.c 0) (.lf (D.aS [D.agg [bZ,bZ,i64 0,i64 0],i64 2]))) (.p (.c 0) (.e (ah .eql h p) (.p (.c 5) (.s (ps.length≤200∧no.length≤200) (.s (decide (p<(ps.length:Int))=true) (.s (decide (0≤p)=true) (.s (p.toNat<ps.length) (.s (decide (p<(no.length:Int))=true) (.s (decide (0≤p)=true) (.s (p.toNat<no.length) (.e (ah .eql (ps.getD p.toNat 0) (-1)) (.e (ah .eql (no.getD p.toNat 0) (-1)) (.s (decide (p<(ps.length:Int))=true) (.s (decide (0≤p)=true) (.s (ps.length=ps.length) (.s (p.toNat<ps.length) (.s (decide (p<(no.length:Int))=true) (.s (decide (0≤p)=true) (.s (no.length=no.length) (.s (p.toNat<no.length) (.s (no.length=(no.set p.toNat (-1)).length) (.s (ps.length=(ps.set p.toNat (-1)).length) (.lf (D.aS [D.agg [D.oc [.ints .i64 (ps.set p.toNat (-1))],D.oc [.ints .i64 (no.set p.toNat (-1))],i64 (no.getD p.toNat 0),i64 (ps.getD p.toNat 0)],i64 0])))))))))))) (.s (decide (no.getD p.toNat 0<(ps.length:Int))=true) (.s (decide (0≤no.getD p.toNat 0)=true) (.s (ps.length=ps.length) (.s ((no.getD p.toNat 0).toNat<ps.length) (.s (decide (p<(ps.length:Int))=true) (.s (decide (0≤p)=true) (.s ((ps.set (no.getD p.toNat 0).toNat (ps.getD p.toNat 0)).length=(ps.set (no.getD p.toNat 0).toNat (ps.getD p.toNat 0)).length) (.s (p.toNat<(ps.set (no.getD p.toNat 0).toNat (ps.getD p.toNat 0)).length) (.s (decide (p<(no.length:Int))=true) (.s (decide (0≤p)=true) (.s (no.length=no.length) (.s (p.toNat<no.length) (.s (no.length=(no.set p.toNat (-1)).length) (.s (ps.length=(Fp ps no p).length) (.lf (D.aS [D.agg [D.oc [.ints .i64 (Fp ps no p)],D.oc [.ints .i64 (no.set p.toNat (-1))],i64 (no.getD p.toNat 0),i64 t],i64 0]))))))))))))))))) (.s (decide (ps.getD p.toNat 0<(no.length:Int))=true) (.s (decide (0≤ps.getD p.toNat 0)=true) (.s (no.length=no.length) (.s ((ps.getD p.toNat 0).toNat<no.length) (.e (ah .eql (no.getD p.toNat 0) (-1)) (.s (decide (p<(ps.length:Int))=true) (.s (decide (0≤p)=true) (.s (ps.length=ps.length) (.s (p.toNat<ps.length) (.s (decide (p<(no.length:Int))=true) (.s (decide (0≤p)=true) (.s ((no.set (ps.getD p.toNat 0).toNat (no.getD p.toNat 0)).length=(no.set (ps.getD p.toNat 0).toNat (no.getD p.toNat 0)).length) (.s (p.toNat<(no.set (ps.getD p.toNat 0).toNat (no.getD p.toNat 0)).length) (.s (no.length=(Fz ps no p).length) (.s (ps.length=(ps.set p.toNat (-1)).length) (.lf (D.aS [D.agg [D.oc [.ints .i64 (ps.set p.toNat (-1))],D.oc [.ints .i64 (Fz ps no p)],i64 h,i64 (ps.getD p.toNat 0)],i64 0])))))))))))) (.s (decide (no.getD p.toNat 0<(ps.length:Int))=true) (.s (decide (0≤no.getD p.toNat 0)=true) (.s (ps.length=ps.length) (.s ((no.getD p.toNat 0).toNat<ps.length) (.s (decide (p<(ps.length:Int))=true) (.s (decide (0≤p)=true) (.s ((ps.set (no.getD p.toNat 0).toNat (ps.getD p.toNat 0)).length=(ps.set (no.getD p.toNat 0).toNat (ps.getD p.toNat 0)).length) (.s (p.toNat<(ps.set (no.getD p.toNat 0).toNat (ps.getD p.toNat 0)).length) (.s (decide (p<(no.length:Int))=true) (.s (decide (0≤p)=true) (.s ((no.set (ps.getD p.toNat 0).toNat (no.getD p.toNat 0)).length=(no.set (ps.getD p.toNat 0).toNat (no.getD p.toNat 0)).length) (.s (p.toNat<(no.set (ps.getD p.toNat 0).toNat (no.getD p.toNat 0)).length) (.s (no.length=(Fz ps no p).length) (.s (ps.length=(Fp ps no p).length) (.lf (D.aS [D.agg [D.oc [.ints .i64 (Fp ps no p)],D.oc [.ints .i64 (Fz ps no p)],i64 h,i64 t],i64 0])))))))))))))))))))))))))))))) (.p (.c 4) (.s (decide (p<(ps.length:Int))=true) (.s (decide (0≤p)=true) (.e (!ah .neq (ps.getD p.toNat 0) (-1)) (.lf (D.aS [D.agg [bZ,bZ,i64 0,i64 0],i64 6])) (.s (ps.length≤200∧no.length≤200) (.s (decide (p<(ps.length:Int))=true) (.s (decide (0≤p)=true) (.s (p.toNat<ps.length) (.s (decide (p<(no.length:Int))=true) (.s (decide (0≤p)=true) (.s (p.toNat<no.length) (.e (ah .eql (ps.getD p.toNat 0) (-1)) (.e (ah .eql (no.getD p.toNat 0) (-1)) (.s (decide (p<(ps.length:Int))=true) (.s (decide (0≤p)=true) (.s (ps.length=ps.length) (.s (p.toNat<ps.length) (.s (decide (p<(no.length:Int))=true) (.s (decide (0≤p)=true) (.s (no.length=no.length) (.s (p.toNat<no.length) (.s (no.length=(no.set p.toNat (-1)).length) (.s (ps.length=(ps.set p.toNat (-1)).length) (.lf (D.aS [D.agg [D.oc [.ints .i64 (ps.set p.toNat (-1))],D.oc [.ints .i64 (no.set p.toNat (-1))],i64 (no.getD p.toNat 0),i64 (ps.getD p.toNat 0)],i64 0])))))))))))) (.s (decide (no.getD p.toNat 0<(ps.length:Int))=true) (.s (decide (0≤no.getD p.toNat 0)=true) (.s (ps.length=ps.length) (.s ((no.getD p.toNat 0).toNat<ps.length) (.s (decide (p<(ps.length:Int))=true) (.s (decide (0≤p)=true) (.s ((ps.set (no.getD p.toNat 0).toNat (ps.getD p.toNat 0)).length=(ps.set (no.getD p.toNat 0).toNat (ps.getD p.toNat 0)).length) (.s (p.toNat<(ps.set (no.getD p.toNat 0).toNat (ps.getD p.toNat 0)).length) (.s (decide (p<(no.length:Int))=true) (.s (decide (0≤p)=true) (.s (no.length=no.length) (.s (p.toNat<no.length) (.s (no.length=(no.set p.toNat (-1)).length) (.s (ps.length=(Fp ps no p).length) (.lf (D.aS [D.agg [D.oc [.ints .i64 (Fp ps no p)],D.oc [.ints .i64 (no.set p.toNat (-1))],i64 (no.getD p.toNat 0),i64 t],i64 0]))))))))))))))))) (.s (decide (ps.getD p.toNat 0<(no.length:Int))=true) (.s (decide (0≤ps.getD p.toNat 0)=true) (.s (no.length=no.length) (.s ((ps.getD p.toNat 0).toNat<no.length) (.e (ah .eql (no.getD p.toNat 0) (-1)) (.s (decide (p<(ps.length:Int))=true) (.s (decide (0≤p)=true) (.s (ps.length=ps.length) (.s (p.toNat<ps.length) (.s (decide (p<(no.length:Int))=true) (.s (decide (0≤p)=true) (.s ((no.set (ps.getD p.toNat 0).toNat (no.getD p.toNat 0)).length=(no.set (ps.getD p.toNat 0).toNat (no.getD p.toNat 0)).length) (.s (p.toNat<(no.set (ps.getD p.toNat 0).toNat (no.getD p.toNat 0)).length) (.s (no.length=(Fz ps no p).length) (.s (ps.length=(ps.set p.toNat (-1)).length) (.lf (D.aS [D.agg [D.oc [.ints .i64 (ps.set p.toNat (-1))],D.oc [.ints .i64 (Fz ps no p)],i64 h,i64 (ps.getD p.toNat 0)],i64 0])))))))))))) (.s (decide (no.getD p.toNat 0<(ps.length:Int))=true) (.s (decide (0≤no.getD p.toNat 0)=true) (.s (ps.length=ps.length) (.s ((no.getD p.toNat 0).toNat<ps.length) (.s (decide (p<(ps.length:Int))=true) (.s (decide (0≤p)=true) (.s ((ps.set (no.getD p.toNat 0).toNat (ps.getD p.toNat 0)).length=(ps.set (no.getD p.toNat 0).toNat (ps.getD p.toNat 0)).length) (.s (p.toNat<(ps.set (no.getD p.toNat 0).toNat (ps.getD p.toNat 0)).length) (.s (decide (p<(no.length:Int))=true) (.s (decide (0≤p)=true) (.s ((no.set (ps.getD p.toNat 0).toNat (no.getD p.toNat 0)).length=(no.set (ps.getD p.toNat 0).toNat (no.getD p.toNat 0)).length) (.s (p.toNat<(no.set (ps.getD p.toNat 0).toNat (no.getD p.toNat 0)).length) (.s (no.length=(Fz ps no p).length) (.s (ps.length=(Fp ps no p).length) (.lf (D.aS [D.agg [D.oc [.ints .i64 (Fp ps no p)],D.oc [.ints .i64 (Fz ps no p)],i64 h,i64 t],i64 0]))))))))))))))))))))))))))))))))))))))
theorem SY (ps no:List Int) (h t p:Int) (res:D) (h0:Az res (Ae ps no h t p) [true]) (h1:Az res (Ae ps no h t p) [false,true]) (h2:Az res (Ae ps no h t p) [false,false,true]) (h3:Az res (Ae ps no h t p) [false,false,false,true,true,true]) (h4:Az res (Ae ps no h t p) [false,false,false,true,true,false]) (h5:Az res (Ae ps no h t p) [false,false,false,true,false,true]) (h6:Az res (Ae ps no h t p) [false,false,false,true,false,false]) (h7:Az res (Ae ps no h t p) [false,false,false,false,true]) (h8:Az res (Ae ps no h t p) [false,false,false,false,false,true,true]) (h9:Az res (Ae ps no h t p) [false,false,false,false,false,true,false]) (h10:Az res (Ae ps no h t p) [false,false,false,false,false,false,true]) (h11:Az res (Ae ps no h t p) [false,false,false,false,false,false,false]):Kl 122 [D.agg [ri ps,ri no,i64 h,i64 t],i64 p] res:=fA (ach) (Ae ps no h t p) ⟨h0,fun e0=>⟨h1 e0,fun e1=>⟨h2 e0 e1,fun e2=>⟨fun e3=>⟨fun e4=>⟨h3 e0 e1 e2 e3 e4,h4 e0 e1 e2 e3 e4⟩,fun e4=>⟨h5 e0 e1 e2 e3 e4,h6 e0 e1 e2 e3 e4⟩⟩,fun e3=>⟨h7 e0 e1 e2 e3,fun e4=>⟨fun e5=>⟨h8 e0 e1 e2 e3 e4 e5,h9 e0 e1 e2 e3 e4 e5⟩,fun e5=>⟨h10 e0 e1 e2 e3 e4 e5,h11 e0 e1 e2 e3 e4 e5⟩⟩⟩⟩⟩⟩⟩
def rng (n:Nat) (x:Int):Prop:=x=-1∨(0≤x∧x<(n:Int))
theorem EQ {ps nx:List Int}:∀ {d:Nat} {la i:Int} {ys:List Bool} {q:Int×List Bool},lm ps nx d la i ys=some q→rng ps.length i
 |0,_,_,_,_,h=>by cases h
 |d+1,la,i,ys,q,h=>by
  simp only[lm] at h
  split at h
  next c=>exact .inl c
  next c=>
   split at h
   ·cases h
   next c2=>exact .inr ⟨by omega,by omega⟩
theorem L8 {ps nx:List Int}:∀ (d:Nat) (la i:Int) (ys:List Bool) (q:Int×List Bool),lm ps nx d la i ys=some q→rng ps.length la→ys.length=ps.length→
  ∀ j,j<ps.length→q.2.getD j false=true→ys.getD j false=true∨(rng ps.length (ps.getD j 0)∧rng ps.length (nx.getD j 0))
 |0,_,_,_,_,h,_,_=>by cases h
 |d+1,la,i,ys,q,h,hla,hy=>fun j hj hq=>by
  simp only[lm] at h
  split at h
  next c=>simp only[Option.some.injEq] at h;subst h;exact .inl hq
  next c=>
   split at h
   ·cases h
   next c2=>
    have i0:0≤i:=by omega
    have i1:i<(ps.length:Int):=by omega
    have hps:ps.getD i.toNat 0=la:=by omega
    have:=L8 d i (nx.getD i.toNat 0) (ys.set i.toNat true) q h (.inr ⟨i0,i1⟩) (by simpa using hy) j hj hq
    by_cases e:i.toNat=j
    ·subst e
     exact .inr ⟨by rw[hps];exact hla,EQ h⟩
    ·rcases this with t | t
     ·left
      rw[List.getD_eq_getElem?_getD,List.getElem?_set_ne e,←List.getD_eq_getElem?_getD] at t;exact t
     ·exact .inr t
theorem Yw {ps nx:List Int} {h t:Int} (e:pG ps nx h t=0):∀ j,j<ps.length→rng ps.length (ps.getD j 0)∧rng ps.length (nx.getD j 0):=by
 obtain⟨c1,c2,c3,la,ys,hw,hb,_⟩:=Ac e
 intro j hj
 have hl:=D8 hw
 by_cases s:ys.getD j false=true
 ·rcases L8 _ _ _ _ _ hw (.inl rfl) (by simp) j hj s with t | t
  ·simp[List.getD_eq_getElem?_getD,hj] at t
  ·exact t
 ·have:=(dZ _ 0).1 hb j (by omega) (by omega)
  have s':ys.getD j false=false:=by simpa using s
  simp only[Ey,s',Bool.not_false,Bool.true_and,Bool.or_eq_false_iff,bne_eq_false_iff_eq] at this
  exact⟨.inl this.1, .inl this.2⟩
def yT (ps no:List Int) (h t p:Int):Prop:=pG ps no h t=0∧(0≤p∧p<(ps.length:Int))∧(h=p∨ps.getD p.toNat 0≠-1)
instance (ps no:List Int) (h t p:Int):Decidable (yT ps no h t p):=by unfold yT;exact inferInstance
def yI (ps no:List Int) (p:Int):List Int:=if no.getD p.toNat 0=-1 then ps.set p.toNat (-1) else(ps.set (no.getD p.toNat 0).toNat (ps.getD p.toNat 0)).set p.toNat (-1)
def Ak (ps no:List Int) (p:Int):List Int:=if ps.getD p.toNat 0=-1 then no.set p.toNat (-1) else(no.set (ps.getD p.toNat 0).toNat (no.getD p.toNat 0)).set p.toNat (-1)
def Ht (ps no:List Int) (h p:Int):Int:=if ps.getD p.toNat 0=-1 then no.getD p.toNat 0 else h
def JF (ps no:List Int) (t p:Int):Int:=if no.getD p.toNat 0=-1 then ps.getD p.toNat 0 else t
def rmE (ps no:List Int) (h t p:Int):Int:=if pG ps no h t=0 then(if 0≤p∧p<(ps.length:Int) then(if h=p∨ps.getD p.toNat 0≠-1 then 0 else 6) else 2) else pG ps no h t
theorem Xe:jW (D.agg [D.v (Value.slice none 0 0),D.v (Value.slice none 0 0),i64 0,i64 0]) (.agg [oi [],oi [],i64 0,i64 0]):=bH.agg (.cons (.nil rfl) (.cons (.nil rfl) (.refl _)))
theorem aou (ps no:List Int) (h t p:Int):Kl 122 [.agg [ri ps,ri no,i64 h,i64 t],i64 p]
  (.aS [.agg [oi (if yT ps no h t p then yI ps no p else[]),oi (if yT ps no h t p then Ak ps no p else[]),i64 (if yT ps no h t p then Ht ps no h p else 0),i64 (if yT ps no h t p then JF ps no t p else 0)],i64 (rmE ps no h t p)]):=by
 by_cases hO:yT ps no h t p
 ·have hO':=hO
  obtain⟨c,⟨p0,p1⟩,hin⟩:=hO'
  obtain⟨c1,c2,c3,_⟩:=Ac c
  obtain⟨r1,r2⟩:=Yw c p.toNat (by omega)
  have hE:rmE ps no h t p=0:=by unfold rmE;rw[if_pos c,if_pos ⟨p0,p1⟩,if_pos hin]
  simp only[if_pos hO];rw[hE]
  have dp0:=decide_eq_true p0
  have dp1:decide (p<(ps.length:Int))=true:=decide_eq_true p1
  have dp2:decide (p<(no.length:Int))=true:=decide_eq_true (by omega)
  have q1:p.toNat<ps.length:=by omega
  have q2:p.toNat<no.length:=by omega
  have q3:ps.length≤200∧no.length≤200:=by omega
  have k1:∀ x y:Int,ps.length=((ps.set x.toNat y).set p.toNat (-1)).length:=fun x y=>by rw[List.length_set,List.length_set]
  have k2:∀ x y:Int,no.length=((no.set x.toNat y).set p.toNat (-1)).length:=fun x y=>by rw[List.length_set,List.length_set]
  have k3:ps.length=(ps.set p.toNat (-1)).length:=by rw[List.length_set]
  have k4:no.length=(no.set p.toNat (-1)).length:=by rw[List.length_set]
  have k5:∀ x y:Int,p.toNat<(ps.set x.toNat y).length:=fun x y=>by rw[List.length_set];exact q1
  have k6:∀ x y:Int,p.toNat<(no.set x.toNat y).length:=fun x y=>by rw[List.length_set];exact q2
  unfold yI Ak Ht JF
  have nb:no.getD p.toNat 0≠-1→(no.getD p.toNat 0).toNat<ps.length∧decide (0≤no.getD p.toNat 0)=true∧decide (no.getD p.toNat 0<(ps.length:Int))=true:=fun n=>by
   rcases r2 with r | r
   ·exact absurd r n
   ·exact⟨by omega,decide_eq_true r.1,decide_eq_true r.2⟩
  have pb:ps.getD p.toNat 0≠-1→(ps.getD p.toNat 0).toNat<no.length∧decide (0≤ps.getD p.toNat 0)=true∧decide (ps.getD p.toNat 0<(no.length:Int))=true:=fun n=>by
   rcases r1 with r | r
   ·exact absurd r n
   ·exact⟨by omega,decide_eq_true r.1,decide_eq_true (by omega)⟩
  refine SY ps no h t p _ ?_ ?_ ?_ ?_ ?_ ?_ ?_ ?_ ?_ ?_ ?_ ?_<;>dsimp only[Az,Rg,At,Tr.q,Tr.e,Ae]
  ·intro g;rw[aI] at g;exact absurd c g
  ·intro _ g;rw[aP] at g;omega
  ·intro _ _ g;rw[dV] at g;omega
  ·intro _ _ _ _ g1 g2
   rw[bY] at g1 g2
   rw[if_pos g1,if_pos g1,if_pos g2,if_pos g2]
   exact⟨⟨k3,k4,q2,rfl,dp0,dp2,q1,rfl,dp0,dp1,q2,dp0,dp2,q1,dp0,dp1,q3,trivial⟩,rfl⟩
  ·intro _ _ _ _ g1 g2
   rw[bY] at g1;rw[bV] at g2
   obtain⟨n1,n2,n3⟩:=nb g2
   rw[if_pos g1,if_pos g1,if_neg g2,if_neg g2]
   exact⟨⟨k1 _ _,k4,q2,rfl,dp0,dp2,k5 _ _,rfl,dp0,dp1,n1,rfl,n2,n3,q2,dp0,dp2,q1,dp0,dp1,q3,trivial⟩,rfl⟩
  ·intro _ _ _ _ g1 g2
   rw[bV] at g1;rw[bY] at g2
   obtain⟨n1,n2,n3⟩:=pb g1
   rw[if_neg g1,if_neg g1,if_pos g2,if_pos g2]
   exact⟨⟨k3,k2 _ _,k6 _ _,rfl,dp0,dp2,q1,rfl,dp0,dp1,n1,rfl,n2,n3,q2,dp0,dp2,q1,dp0,dp1,q3,trivial⟩,rfl⟩
  ·intro _ _ _ _ g1 g2
   rw[bV] at g1 g2
   obtain⟨n1,n2,n3⟩:=pb g1
   obtain⟨m1,m2,m3⟩:=nb g2
   rw[if_neg g1,if_neg g1,if_neg g2,if_neg g2]
   exact⟨⟨k1 _ _,k2 _ _,k6 _ _,rfl,dp0,dp2,k5 _ _,rfl,dp0,dp1,m1,rfl,m2,m3,n1,rfl,n2,n3,q2,dp0,dp2,q1,dp0,dp1,q3,trivial⟩,rfl⟩
  ·intro _ _ _ g g2
   rw[bV] at g
   have:ps.getD p.toNat 0=-1:=by
    rw[Bool.not_eq_true',aQ] at g2;exact g2
   rcases hin with q | q
   ·exact absurd q g
   ·exact absurd this q
  ·intro _ _ _ _ g2 g1
   rw[Bool.not_eq_false',aI] at g2;rw[bY] at g1;exact absurd g1 g2
  ·intro _ _ _ _ g2 g1
   rw[Bool.not_eq_false',aI] at g2;rw[bY] at g1;exact absurd g1 g2
  ·intro _ _ _ _ _ g1 g2
   rw[bV] at g1;rw[bY] at g2
   obtain⟨n1,n2,n3⟩:=pb g1
   rw[if_neg g1,if_neg g1,if_pos g2,if_pos g2]
   exact⟨⟨k3,k2 _ _,k6 _ _,rfl,dp0,dp2,q1,rfl,dp0,dp1,n1,rfl,n2,n3,q2,dp0,dp2,q1,dp0,dp1,q3,dp0,dp1,trivial⟩,rfl⟩
  ·intro _ _ _ _ _ g1 g2
   rw[bV] at g1 g2
   obtain⟨n1,n2,n3⟩:=pb g1
   obtain⟨m1,m2,m3⟩:=nb g2
   rw[if_neg g1,if_neg g1,if_neg g2,if_neg g2]
   exact⟨⟨k1 _ _,k2 _ _,k6 _ _,rfl,dp0,dp2,k5 _ _,rfl,dp0,dp1,m1,rfl,m2,m3,n1,rfl,n2,n3,q2,dp0,dp2,q1,dp0,dp1,q3,dp0,dp1,trivial⟩,rfl⟩
 ·simp only[if_neg hO]
  refine bf (bH.aS (.cons Xe (.refl _))) ?_
  unfold rmE
  have out:∀ {P:Prop},ah .neq (pG ps no h t) 0=false→ah .lss p 0=false→ah .geq p (ps.length:Int)=false→(h=p∨ps.getD p.toNat 0≠-1)→P:=fun g1 g2 g3 g4=>by
   rw[aQ] at g1;rw[aX] at g2;rw[dS] at g3
   exact absurd ⟨g1,⟨by omega,by omega⟩,g4⟩ hO
  refine SY ps no h t p _ ?_ ?_ ?_ ?_ ?_ ?_ ?_ ?_ ?_ ?_ ?_ ?_<;>dsimp only[Az,Rg,At,Tr.q,Tr.e,Ae]
  ·intro g;rw[aI] at g;exact⟨trivial,by rw[if_neg g]⟩
  ·intro g g2;rw[aQ] at g;rw[aP] at g2;exact⟨trivial,by rw[if_pos g,if_neg (by omega)]⟩
  ·intro g g2 g3;rw[aQ] at g;rw[dV] at g3;exact⟨trivial,by rw[if_pos g,if_neg (by omega)]⟩
  ·intro g1 g2 g3 g;exact out g1 g2 g3 (.inl (by rw[bY] at g;exact g))
  ·intro g1 g2 g3 g;exact out g1 g2 g3 (.inl (by rw[bY] at g;exact g))
  ·intro g1 g2 g3 g;exact out g1 g2 g3 (.inl (by rw[bY] at g;exact g))
  ·intro g1 g2 g3 g;exact out g1 g2 g3 (.inl (by rw[bY] at g;exact g))
  ·intro g1 g2 g3 g g4
   rw[aQ] at g1;rw[aX] at g2;rw[dS] at g3;rw[bV] at g
   rw[Bool.not_eq_true',aQ] at g4
   refine⟨⟨decide_eq_true (by omega),decide_eq_true (by omega),trivial⟩,?_⟩
   rw[if_pos g1,if_pos ⟨by omega,by omega⟩,if_neg]
   rintro(q | q)
   ·exact g q
   ·exact q g4
  all_goals (intro g1 g2 g3 _ g4;exact out g1 g2 g3 (.inr (by rw[Bool.not_eq_false',aI] at g4;exact g4)))
def rmC:List D→Option (D×List Prop)
 |[.agg [.rc [.ints .i64 ps], .rc [.ints .i64 no], .v (.int .i64 h), .v (.int .i64 t)], .v (.int .i64 p)]=>some ((.aS [.agg [oi (if yT ps no h t p then yI ps no p else[]),oi (if yT ps no h t p then Ak ps no p else[]),i64 (if yT ps no h t p then Ht ps no h p else 0),i64 (if yT ps no h t p then JF ps no t p else 0)],i64 (rmE ps no h t p)]),[])
 |_=>none
theorem amg (args res l) (h:rmC args=some (res,l)) (hl:aJ l):Kl 122 args res:=by
 unfold rmC at h;split at h
 ·obtain⟨rfl,rfl⟩:=dB h
  exact aou _ _ _ _ _
 ·cases h
def bG (ps no:List Int) (p:Int):=(ps.set (no.getD p.toNat 0).toNat (ps.getD p.toNat 0)).set p.toNat (-1)
def bF (ps no:List Int) (p:Int):=(no.set (ps.getD p.toNat 0).toNat (no.getD p.toNat 0)).set p.toNat (-1)
def qZ (ps no:List Int) (h t p:Int):Tr D:= .d (ah .neq (pG ps no h t) 0) (fun e0=> .p (.d true) (.k _ e0 (.lf (D.aS [D.agg [bZ,bZ,i64 0,i64 0],i64 (pG ps no h t)])))) (fun e0=> .e (ah .lss p 0) (.p (.c 5) (.lf (D.aS [D.agg [bZ,bZ,i64 0,i64 0],i64 2]))) (.p (.c 3) (.e (ah .geq p (ps.length:Int)) (.p (.c 0) (.lf (D.aS [D.agg [bZ,bZ,i64 0,i64 0],i64 2]))) (.p (.c 0) (.s (ps.length≤200∧no.length≤200) (.e (ah .eql h p) (.p (.c 5) (.s (decide (p<(ps.length:Int))=true) (.s (decide (0≤p)=true) (.s (p.toNat<ps.length) (.s (decide (p<(no.length:Int))=true) (.s (decide (0≤p)=true) (.s (p.toNat<no.length) (.e (ah .eql (ps.getD p.toNat 0) (-1)) (.d (ah .eql (no.getD p.toNat 0) (-1)) (fun e5=> .p (.d true) (.s (decide (p<(ps.length:Int))=true) (.s (decide (0≤p)=true) (.s (ps.length=ps.length) (.s (p.toNat<ps.length) (.s (decide (p<(no.length:Int))=true) (.s (decide (0≤p)=true) (.s (no.length=no.length) (.s (p.toNat<no.length) (.s (decide (p<(no.length:Int))=true) (.s (decide (0≤p)=true) (.s ((ay.ints .i64 (no.set p.toNat (-1))).len=(no.set p.toNat (-1)).length) (.s (p.toNat<(no.set p.toNat (-1)).length) (.k _ e5 (.s (no.length=af [.ints .i64 ((no.set p.toNat (-1)).set p.toNat (no.getD p.toNat 0))]) (.s (ps.length=(ps.set p.toNat (-1)).length) (.lf (D.aS [D.agg [D.oc [.ints .i64 (ps.set p.toNat (-1))],D.oc [.ints .i64 ((no.set p.toNat (-1)).set p.toNat (no.getD p.toNat 0))],i64 p,i64 p],i64 0])))))))))))))))))) (fun e5=> .p (.d false) (.s (decide (no.getD p.toNat 0<(ps.length:Int))=true) (.s (decide (0≤no.getD p.toNat 0)=true) (.s (ps.length=ps.length) (.s ((no.getD p.toNat 0).toNat<ps.length) (.s (decide (p<(ps.length:Int))=true) (.s (decide (0≤p)=true) (.s ((ps.set (no.getD p.toNat 0).toNat (ps.getD p.toNat 0)).length=(ps.set (no.getD p.toNat 0).toNat (ps.getD p.toNat 0)).length) (.s (p.toNat<(ps.set (no.getD p.toNat 0).toNat (ps.getD p.toNat 0)).length) (.s (decide (p<(no.length:Int))=true) (.s (decide (0≤p)=true) (.s (no.length=no.length) (.s (p.toNat<no.length) (.s (decide (p<(no.length:Int))=true) (.s (decide (0≤p)=true) (.s ((ay.ints .i64 (no.set p.toNat (-1))).len=(no.set p.toNat (-1)).length) (.s (p.toNat<(no.set p.toNat (-1)).length) (.k _ e5 (.s (decide (no.getD p.toNat 0<(ps.length:Int))=true) (.s (decide (0≤no.getD p.toNat 0)=true) (.s ((ay.ints .i64 (bG ps no p)).len=(bG ps no p).length) (.s ((no.getD p.toNat 0).toNat<(bG ps no p).length) (.s (no.length=af [.ints .i64 ((no.set p.toNat (-1)).set p.toNat (no.getD p.toNat 0))]) (.s (ps.length=af [.ints .i64 ((bG ps no p).set (no.getD p.toNat 0).toNat p)]) (.lf (D.aS [D.agg [D.oc [.ints .i64 ((bG ps no p).set (no.getD p.toNat 0).toNat p)],D.oc [.ints .i64 ((no.set p.toNat (-1)).set p.toNat (no.getD p.toNat 0))],i64 p,i64 t],i64 0]))))))))))))))))))))))))))) (.s (decide (ps.getD p.toNat 0<(no.length:Int))=true) (.s (decide (0≤ps.getD p.toNat 0)=true) (.s (no.length=no.length) (.s ((ps.getD p.toNat 0).toNat<no.length) (.e (ah .eql (no.getD p.toNat 0) (-1)) (.s (decide (p<(ps.length:Int))=true) (.s (decide (0≤p)=true) (.s (ps.length=ps.length) (.s (p.toNat<ps.length) (.s (decide (p<(no.length:Int))=true) (.s (decide (0≤p)=true) (.s ((no.set (ps.getD p.toNat 0).toNat (no.getD p.toNat 0)).length=(no.set (ps.getD p.toNat 0).toNat (no.getD p.toNat 0)).length) (.s (p.toNat<(no.set (ps.getD p.toNat 0).toNat (no.getD p.toNat 0)).length) (.s (decide (p<(no.length:Int))=true) (.s (decide (0≤p)=true) (.s ((ay.ints .i64 (bF ps no p)).len=(bF ps no p).length) (.s (p.toNat<(bF ps no p).length) (.e (ah .eql h (-1)) (.s (no.length=af [.ints .i64 ((bF ps no p).set p.toNat h)]) (.s (ps.length=(ps.set p.toNat (-1)).length) (.lf (D.aS [D.agg [D.oc [.ints .i64 (ps.set p.toNat (-1))],D.oc [.ints .i64 ((bF ps no p).set p.toNat h)],i64 p,i64 p],i64 0])))) (.s (decide (h<(ps.length:Int))=true) (.s (decide (0≤h)=true) (.s ((ay.ints .i64 (ps.set p.toNat (-1))).len=(ps.set p.toNat (-1)).length) (.s (h.toNat<(ps.set p.toNat (-1)).length) (.s (no.length=af [.ints .i64 ((bF ps no p).set p.toNat h)]) (.s (ps.length=af [.ints .i64 ((ps.set p.toNat (-1)).set h.toNat p)]) (.lf (D.aS [D.agg [D.oc [.ints .i64 ((ps.set p.toNat (-1)).set h.toNat p)],D.oc [.ints .i64 ((bF ps no p).set p.toNat h)],i64 p,i64 (ps.getD p.toNat 0)],i64 0]))))))))))))))))))))) (.s (decide (no.getD p.toNat 0<(ps.length:Int))=true) (.s (decide (0≤no.getD p.toNat 0)=true) (.s (ps.length=ps.length) (.s ((no.getD p.toNat 0).toNat<ps.length) (.s (decide (p<(ps.length:Int))=true) (.s (decide (0≤p)=true) (.s ((ps.set (no.getD p.toNat 0).toNat (ps.getD p.toNat 0)).length=(ps.set (no.getD p.toNat 0).toNat (ps.getD p.toNat 0)).length) (.s (p.toNat<(ps.set (no.getD p.toNat 0).toNat (ps.getD p.toNat 0)).length) (.s (decide (p<(no.length:Int))=true) (.s (decide (0≤p)=true) (.s ((no.set (ps.getD p.toNat 0).toNat (no.getD p.toNat 0)).length=(no.set (ps.getD p.toNat 0).toNat (no.getD p.toNat 0)).length) (.s (p.toNat<(no.set (ps.getD p.toNat 0).toNat (no.getD p.toNat 0)).length) (.s (decide (p<(no.length:Int))=true) (.s (decide (0≤p)=true) (.s ((ay.ints .i64 (bF ps no p)).len=(bF ps no p).length) (.s (p.toNat<(bF ps no p).length) (.e (ah .eql h (-1)) (.s (no.length=af [.ints .i64 ((bF ps no p).set p.toNat h)]) (.s (ps.length=(bG ps no p).length) (.lf (D.aS [D.agg [D.oc [.ints .i64 (bG ps no p)],D.oc [.ints .i64 ((bF ps no p).set p.toNat h)],i64 p,i64 p],i64 0])))) (.s (decide (h<(ps.length:Int))=true) (.s (decide (0≤h)=true) (.s ((ay.ints .i64 (bG ps no p)).len=(bG ps no p).length) (.s (h.toNat<(bG ps no p).length) (.s (no.length=af [.ints .i64 ((bF ps no p).set p.toNat h)]) (.s (ps.length=af [.ints .i64 ((bG ps no p).set h.toNat p)]) (.lf (D.aS [D.agg [D.oc [.ints .i64 ((bG ps no p).set h.toNat p)],D.oc [.ints .i64 ((bF ps no p).set p.toNat h)],i64 p,i64 t],i64 0])))))))))))))))))))))))))))))))))))))) (.p (.c 4) (.s (decide (p<(ps.length:Int))=true) (.s (decide (0≤p)=true) (.s (p.toNat<ps.length) (.e (ah .neq (ps.getD p.toNat 0) (-1)) (.s (decide (p<(ps.length:Int))=true) (.s (decide (0≤p)=true) (.s (p.toNat<ps.length) (.s (decide (p<(no.length:Int))=true) (.s (decide (0≤p)=true) (.s (p.toNat<no.length) (.e (ah .eql (ps.getD p.toNat 0) (-1)) (.d (ah .eql (no.getD p.toNat 0) (-1)) (fun e6=> .p (.d true) (.s (decide (p<(ps.length:Int))=true) (.s (decide (0≤p)=true) (.s (ps.length=ps.length) (.s (p.toNat<ps.length) (.s (decide (p<(no.length:Int))=true) (.s (decide (0≤p)=true) (.s (no.length=no.length) (.s (p.toNat<no.length) (.s (decide (p<(no.length:Int))=true) (.s (decide (0≤p)=true) (.s ((ay.ints .i64 (no.set p.toNat (-1))).len=(no.set p.toNat (-1)).length) (.s (p.toNat<(no.set p.toNat (-1)).length) (.k _ e6 (.s (no.length=af [.ints .i64 ((no.set p.toNat (-1)).set p.toNat (no.getD p.toNat 0))]) (.s (ps.length=(ps.set p.toNat (-1)).length) (.lf (D.aS [D.agg [D.oc [.ints .i64 (ps.set p.toNat (-1))],D.oc [.ints .i64 ((no.set p.toNat (-1)).set p.toNat (no.getD p.toNat 0))],i64 p,i64 p],i64 0])))))))))))))))))) (fun e6=> .p (.d false) (.s (decide (no.getD p.toNat 0<(ps.length:Int))=true) (.s (decide (0≤no.getD p.toNat 0)=true) (.s (ps.length=ps.length) (.s ((no.getD p.toNat 0).toNat<ps.length) (.s (decide (p<(ps.length:Int))=true) (.s (decide (0≤p)=true) (.s ((ps.set (no.getD p.toNat 0).toNat (ps.getD p.toNat 0)).length=(ps.set (no.getD p.toNat 0).toNat (ps.getD p.toNat 0)).length) (.s (p.toNat<(ps.set (no.getD p.toNat 0).toNat (ps.getD p.toNat 0)).length) (.s (decide (p<(no.length:Int))=true) (.s (decide (0≤p)=true) (.s (no.length=no.length) (.s (p.toNat<no.length) (.s (decide (p<(no.length:Int))=true) (.s (decide (0≤p)=true) (.s ((ay.ints .i64 (no.set p.toNat (-1))).len=(no.set p.toNat (-1)).length) (.s (p.toNat<(no.set p.toNat (-1)).length) (.k _ e6 (.s (decide (no.getD p.toNat 0<(ps.length:Int))=true) (.s (decide (0≤no.getD p.toNat 0)=true) (.s ((ay.ints .i64 (bG ps no p)).len=(bG ps no p).length) (.s ((no.getD p.toNat 0).toNat<(bG ps no p).length) (.s (no.length=af [.ints .i64 ((no.set p.toNat (-1)).set p.toNat (no.getD p.toNat 0))]) (.s (ps.length=af [.ints .i64 ((bG ps no p).set (no.getD p.toNat 0).toNat p)]) (.lf (D.aS [D.agg [D.oc [.ints .i64 ((bG ps no p).set (no.getD p.toNat 0).toNat p)],D.oc [.ints .i64 ((no.set p.toNat (-1)).set p.toNat (no.getD p.toNat 0))],i64 p,i64 t],i64 0]))))))))))))))))))))))))))) (.s (decide (ps.getD p.toNat 0<(no.length:Int))=true) (.s (decide (0≤ps.getD p.toNat 0)=true) (.s (no.length=no.length) (.s ((ps.getD p.toNat 0).toNat<no.length) (.e (ah .eql (no.getD p.toNat 0) (-1)) (.s (decide (p<(ps.length:Int))=true) (.s (decide (0≤p)=true) (.s (ps.length=ps.length) (.s (p.toNat<ps.length) (.s (decide (p<(no.length:Int))=true) (.s (decide (0≤p)=true) (.s ((no.set (ps.getD p.toNat 0).toNat (no.getD p.toNat 0)).length=(no.set (ps.getD p.toNat 0).toNat (no.getD p.toNat 0)).length) (.s (p.toNat<(no.set (ps.getD p.toNat 0).toNat (no.getD p.toNat 0)).length) (.s (decide (p<(no.length:Int))=true) (.s (decide (0≤p)=true) (.s ((ay.ints .i64 (bF ps no p)).len=(bF ps no p).length) (.s (p.toNat<(bF ps no p).length) (.e (ah .eql h (-1)) (.s (no.length=af [.ints .i64 ((bF ps no p).set p.toNat h)]) (.s (ps.length=(ps.set p.toNat (-1)).length) (.lf (D.aS [D.agg [D.oc [.ints .i64 (ps.set p.toNat (-1))],D.oc [.ints .i64 ((bF ps no p).set p.toNat h)],i64 p,i64 p],i64 0])))) (.s (decide (h<(ps.length:Int))=true) (.s (decide (0≤h)=true) (.s ((ay.ints .i64 (ps.set p.toNat (-1))).len=(ps.set p.toNat (-1)).length) (.s (h.toNat<(ps.set p.toNat (-1)).length) (.s (no.length=af [.ints .i64 ((bF ps no p).set p.toNat h)]) (.s (ps.length=af [.ints .i64 ((ps.set p.toNat (-1)).set h.toNat p)]) (.lf (D.aS [D.agg [D.oc [.ints .i64 ((ps.set p.toNat (-1)).set h.toNat p)],D.oc [.ints .i64 ((bF ps no p).set p.toNat h)],i64 p,i64 (ps.getD p.toNat 0)],i64 0]))))))))))))))))))))) (.s (decide (no.getD p.toNat 0<(ps.length:Int))=true) (.s (decide (0≤no.getD p.toNat 0)=true) (.s (ps.length=ps.length) (.s ((no.getD p.toNat 0).toNat<ps.length) (.s (decide (p<(ps.length:Int))=true) (.s (decide (0≤p)=true) (.s ((ps.set (no.getD p.toNat 0).toNat (ps.getD p.toNat 0)).length=(ps.set (no.getD p.toNat 0).toNat (ps.getD p.toNat 0)).length) (.s (p.toNat<(ps.set (no.getD p.toNat 0).toNat (ps.getD p.toNat 0)).length) (.s (decide (p<(no.length:Int))=true) (.s (decide (0≤p)=true) (.s ((no.set (ps.getD p.toNat 0).toNat (no.getD p.toNat 0)).length=(no.set (ps.getD p.toNat 0).toNat (no.getD p.toNat 0)).length) (.s (p.toNat<(no.set (ps.getD p.toNat 0).toNat (no.getD p.toNat 0)).length) (.s (decide (p<(no.length:Int))=true) (.s (decide (0≤p)=true) (.s ((ay.ints .i64 (bF ps no p)).len=(bF ps no p).length) (.s (p.toNat<(bF ps no p).length) (.e (ah .eql h (-1)) (.s (no.length=af [.ints .i64 ((bF ps no p).set p.toNat h)]) (.s (ps.length=(bG ps no p).length) (.lf (D.aS [D.agg [D.oc [.ints .i64 (bG ps no p)],D.oc [.ints .i64 ((bF ps no p).set p.toNat h)],i64 p,i64 p],i64 0])))) (.s (decide (h<(ps.length:Int))=true) (.s (decide (0≤h)=true) (.s ((ay.ints .i64 (bG ps no p)).len=(bG ps no p).length) (.s (h.toNat<(bG ps no p).length) (.s (no.length=af [.ints .i64 ((bF ps no p).set p.toNat h)]) (.s (ps.length=af [.ints .i64 ((bG ps no p).set h.toNat p)]) (.lf (D.aS [D.agg [D.oc [.ints .i64 ((bG ps no p).set h.toNat p)],D.oc [.ints .i64 ((bF ps no p).set p.toNat h)],i64 p,i64 t],i64 0]))))))))))))))))))))))))))))))))))))) (.s (decide (p<(no.length:Int))=true) (.s (decide (0≤p)=true) (.s (no.length=no.length) (.s (p.toNat<no.length) (.e (ah .eql h (-1)) (.s (no.length=af [.ints .i64 (no.set p.toNat h)]) (.q (ps.length) (.lf (D.aS [D.agg [D.oc [.ints .i64 ps],D.oc [.ints .i64 (no.set p.toNat h)],i64 p,i64 p],i64 0])))) (.s (decide (h<(ps.length:Int))=true) (.s (decide (0≤h)=true) (.s (ps.length=ps.length) (.s (h.toNat<ps.length) (.s (no.length=af [.ints .i64 (no.set p.toNat h)]) (.s (ps.length=af [.ints .i64 (ps.set h.toNat p)]) (.lf (D.aS [D.agg [D.oc [.ints .i64 (ps.set h.toNat p)],D.oc [.ints .i64 (no.set p.toNat h)],i64 p,i64 t],i64 0]))))))))))))))))))))))))
theorem Uy (ps no:List Int) (h t p:Int) (res:D) (h0:Az res (qZ ps no h t p) [true]) (h1:Az res (qZ ps no h t p) [false,true]) (h2:Az res (qZ ps no h t p) [false,false,true]) (h3:Az res (qZ ps no h t p) [false,false,false,true,true,true]) (h4:Az res (qZ ps no h t p) [false,false,false,true,true,false]) (h5:Az res (qZ ps no h t p) [false,false,false,true,false,true,true]) (h6:Az res (qZ ps no h t p) [false,false,false,true,false,true,false]) (h7:Az res (qZ ps no h t p) [false,false,false,true,false,false,true]) (h8:Az res (qZ ps no h t p) [false,false,false,true,false,false,false]) (h9:Az res (qZ ps no h t p) [false,false,false,false,true,true,true]) (h10:Az res (qZ ps no h t p) [false,false,false,false,true,true,false]) (h11:Az res (qZ ps no h t p) [false,false,false,false,true,false,true,true]) (h12:Az res (qZ ps no h t p) [false,false,false,false,true,false,true,false]) (h13:Az res (qZ ps no h t p) [false,false,false,false,true,false,false,true]) (h14:Az res (qZ ps no h t p) [false,false,false,false,true,false,false,false]) (h15:Az res (qZ ps no h t p) [false,false,false,false,false,true]) (h16:Az res (qZ ps no h t p) [false,false,false,false,false,false]):Kl 66 [D.agg [ri ps,ri no,i64 h,i64 t],i64 p] res:=fA (ach) (qZ ps no h t p) ⟨h0,fun e0=>⟨h1 e0,fun e1=>⟨h2 e0 e1,fun e2=>⟨fun e3=>⟨fun e4=>⟨h3 e0 e1 e2 e3 e4,h4 e0 e1 e2 e3 e4⟩,fun e4=>⟨fun e5=>⟨h5 e0 e1 e2 e3 e4 e5,h6 e0 e1 e2 e3 e4 e5⟩,fun e5=>⟨h7 e0 e1 e2 e3 e4 e5,h8 e0 e1 e2 e3 e4 e5⟩⟩⟩,fun e3=>⟨fun e4=>⟨fun e5=>⟨h9 e0 e1 e2 e3 e4 e5,h10 e0 e1 e2 e3 e4 e5⟩,fun e5=>⟨fun e6=>⟨h11 e0 e1 e2 e3 e4 e5 e6,h12 e0 e1 e2 e3 e4 e5 e6⟩,fun e6=>⟨h13 e0 e1 e2 e3 e4 e5 e6,h14 e0 e1 e2 e3 e4 e5 e6⟩⟩⟩,fun e4=>⟨h15 e0 e1 e2 e3 e4,h16 e0 e1 e2 e3 e4⟩⟩⟩⟩⟩⟩
def nX (ps no:List Int) (h t p:Int):Prop:=pG ps no h t=0∧0≤p∧p<(ps.length:Int)
instance (ps no:List Int) (h t p:Int):Decidable (nX ps no h t p):=by unfold nX;exact inferInstance
def toH (ps no:List Int) (h p:Int):Int:=if h=p∨ps.getD p.toNat 0≠-1 then Ht ps no h p else h
def toP (ps no:List Int) (h p:Int):List Int:=if toH ps no h p=-1 then(if h=p∨ps.getD p.toNat 0≠-1 then yI ps no p else ps) else(if h=p∨ps.getD p.toNat 0≠-1 then yI ps no p else ps).set (toH ps no h p).toNat p
def toN (ps no:List Int) (h p:Int):List Int:=(if h=p∨ps.getD p.toNat 0≠-1 then Ak ps no p else no).set p.toNat (toH ps no h p)
def Vl (ps no:List Int) (h t p:Int):Int:=if toH ps no h p=-1 then p else(if h=p∨ps.getD p.toNat 0≠-1 then JF ps no t p else t)
def toE (ps no:List Int) (h t p:Int):Int:=if pG ps no h t=0 then(if 0≤p∧p<(ps.length:Int) then 0 else 2) else pG ps no h t
theorem anP (ps no:List Int) (h t p:Int):Kl 66 [.agg [ri ps,ri no,i64 h,i64 t],i64 p]
  (.aS [.agg [oi (if nX ps no h t p then toP ps no h p else[]),oi (if nX ps no h t p then toN ps no h p else[]),i64 (if nX ps no h t p then p else 0),i64 (if nX ps no h t p then Vl ps no h t p else 0)],i64 (toE ps no h t p)]):=by
 by_cases hO:nX ps no h t p
 ·have hO':=hO
  obtain⟨c,p0,p1⟩:=hO'
  obtain⟨c1,c2,c3,la,ys,hw,_⟩:=Ac c
  obtain⟨r1,r2⟩:=Yw c p.toNat (by omega)
  have r3:=EQ hw
  unfold rng at r1 r2 r3
  have hE:toE ps no h t p=0:=by unfold toE;rw[if_pos c,if_pos ⟨p0,p1⟩]
  simp only[if_pos hO];rw[hE]
  unfold toP toN Vl toH
  refine Uy ps no h t p _ ?_ ?_ ?_ ?_ ?_ ?_ ?_ ?_ ?_ ?_ ?_ ?_ ?_ ?_ ?_ ?_ ?_<;>dsimp only[Az,Rg,At,Tr.q,Tr.e,qZ]
  ·intro g;rw[aI] at g;exact absurd c g
  ·intro _ g;rw[aP] at g;omega
  ·intro _ _ g;rw[dV] at g;omega
  ·intro _ _ _ g g1 g2
   rw[bY] at g
   have hI:h=p∨ps.getD p.toNat 0≠-1:= .inl g
   rw[bY] at g1;rw[bY] at g2
   simp only[if_pos hI];unfold yI Ak Ht JF
   refine⟨?_,?_⟩
   ·(repeat' apply And.intro)<;>first | exact trivial | rfl | assumption | omega | (simp only[af,ay.len,bG,bF,List.length_set];done) | (simp only[af,ay.len,bG,bF,List.length_set];omega) | (apply decide_eq_true;omega) | (apply decide_eq_true;simp only[af,ay.len,bG,bF,List.length_set];omega)
   ·simp only[if_pos g1,if_pos g2]<;>first | rfl | (simp only[bG,bF];done) | (unfold bG bF;rfl) | (unfold bG;rfl) | (unfold bF;rfl)
  ·intro _ _ _ g g1 g2
   rw[bY] at g
   have hI:h=p∨ps.getD p.toNat 0≠-1:= .inl g
   rw[bY] at g1;rw[bV] at g2
   simp only[if_pos hI];unfold yI Ak Ht JF
   refine⟨?_,?_⟩
   ·(repeat' apply And.intro)<;>first | exact trivial | rfl | assumption | omega | (simp only[af,ay.len,bG,bF,List.length_set];done) | (simp only[af,ay.len,bG,bF,List.length_set];omega) | (apply decide_eq_true;omega) | (apply decide_eq_true;simp only[af,ay.len,bG,bF,List.length_set];omega)
   ·simp only[if_pos g1,if_neg g2]<;>first | rfl | (simp only[bG,bF];done) | (unfold bG bF;rfl) | (unfold bG;rfl) | (unfold bF;rfl)
  ·intro _ _ _ g g1 g2 g3
   rw[bY] at g
   have hI:h=p∨ps.getD p.toNat 0≠-1:= .inl g
   rw[bV] at g1;rw[bY] at g2
   rw[bY] at g3
   simp only[if_pos hI];unfold yI Ak Ht JF
   refine⟨?_,?_⟩
   ·(repeat' apply And.intro)<;>first | exact trivial | rfl | assumption | omega | (simp only[af,ay.len,bG,bF,List.length_set];done) | (simp only[af,ay.len,bG,bF,List.length_set];omega) | (apply decide_eq_true;omega) | (apply decide_eq_true;simp only[af,ay.len,bG,bF,List.length_set];omega)
   ·simp only[if_neg g1,if_pos g2,if_pos g3]<;>first | rfl | (simp only[bG,bF];done) | (unfold bG bF;rfl) | (unfold bG;rfl) | (unfold bF;rfl)
  ·intro _ _ _ g g1 g2 g3
   rw[bY] at g
   have hI:h=p∨ps.getD p.toNat 0≠-1:= .inl g
   rw[bV] at g1;rw[bY] at g2
   rw[bV] at g3
   simp only[if_pos hI];unfold yI Ak Ht JF
   refine⟨?_,?_⟩
   ·(repeat' apply And.intro)<;>first | exact trivial | rfl | assumption | omega | (simp only[af,ay.len,bG,bF,List.length_set];done) | (simp only[af,ay.len,bG,bF,List.length_set];omega) | (apply decide_eq_true;omega) | (apply decide_eq_true;simp only[af,ay.len,bG,bF,List.length_set];omega)
   ·simp only[if_neg g1,if_pos g2,if_neg g3]<;>first | rfl | (simp only[bG,bF];done) | (unfold bG bF;rfl) | (unfold bG;rfl) | (unfold bF;rfl)
  ·intro _ _ _ g g1 g2 g3
   rw[bY] at g
   have hI:h=p∨ps.getD p.toNat 0≠-1:= .inl g
   rw[bV] at g1;rw[bV] at g2
   rw[bY] at g3
   simp only[if_pos hI];unfold yI Ak Ht JF
   refine⟨?_,?_⟩
   ·(repeat' apply And.intro)<;>first | exact trivial | rfl | assumption | omega | (simp only[af,ay.len,bG,bF,List.length_set];done) | (simp only[af,ay.len,bG,bF,List.length_set];omega) | (apply decide_eq_true;omega) | (apply decide_eq_true;simp only[af,ay.len,bG,bF,List.length_set];omega)
   ·simp only[if_neg g1,if_neg g2,if_pos g3]<;>first | rfl | (simp only[bG,bF];done) | (unfold bG bF;rfl) | (unfold bG;rfl) | (unfold bF;rfl)
  ·intro _ _ _ g g1 g2 g3
   rw[bY] at g
   have hI:h=p∨ps.getD p.toNat 0≠-1:= .inl g
   rw[bV] at g1;rw[bV] at g2
   rw[bV] at g3
   simp only[if_pos hI];unfold yI Ak Ht JF
   refine⟨?_,?_⟩
   ·(repeat' apply And.intro)<;>first | exact trivial | rfl | assumption | omega | (simp only[af,ay.len,bG,bF,List.length_set];done) | (simp only[af,ay.len,bG,bF,List.length_set];omega) | (apply decide_eq_true;omega) | (apply decide_eq_true;simp only[af,ay.len,bG,bF,List.length_set];omega)
   ·simp only[if_neg g1,if_neg g2,if_neg g3]<;>first | rfl | (simp only[bG,bF];done) | (unfold bG bF;rfl) | (unfold bG;rfl) | (unfold bF;rfl)
  ·intro _ _ _ g g' g1 g2
   rw[bV] at g;rw[aI] at g'
   have hI:h=p∨ps.getD p.toNat 0≠-1:= .inr g'
   rw[bY] at g1;rw[bY] at g2
   exact absurd g1 g'
  ·intro _ _ _ g g' g1 g2
   rw[bV] at g;rw[aI] at g'
   have hI:h=p∨ps.getD p.toNat 0≠-1:= .inr g'
   rw[bY] at g1;rw[bV] at g2
   exact absurd g1 g'
  ·intro _ _ _ g g' g1 g2 g3
   rw[bV] at g;rw[aI] at g'
   have hI:h=p∨ps.getD p.toNat 0≠-1:= .inr g'
   rw[bV] at g1;rw[bY] at g2
   rw[bY] at g3
   simp only[if_pos hI];unfold yI Ak Ht JF
   refine⟨?_,?_⟩
   ·(repeat' apply And.intro)<;>first | exact trivial | rfl | assumption | omega | (simp only[af,ay.len,bG,bF,List.length_set];done) | (simp only[af,ay.len,bG,bF,List.length_set];omega) | (apply decide_eq_true;omega) | (apply decide_eq_true;simp only[af,ay.len,bG,bF,List.length_set];omega)
   ·simp only[if_neg g1,if_pos g2,if_pos g3]<;>first | rfl | (simp only[bG,bF];done) | (unfold bG bF;rfl) | (unfold bG;rfl) | (unfold bF;rfl)
  ·intro _ _ _ g g' g1 g2 g3
   rw[bV] at g;rw[aI] at g'
   have hI:h=p∨ps.getD p.toNat 0≠-1:= .inr g'
   rw[bV] at g1;rw[bY] at g2
   rw[bV] at g3
   simp only[if_pos hI];unfold yI Ak Ht JF
   refine⟨?_,?_⟩
   ·(repeat' apply And.intro)<;>first | exact trivial | rfl | assumption | omega | (simp only[af,ay.len,bG,bF,List.length_set];done) | (simp only[af,ay.len,bG,bF,List.length_set];omega) | (apply decide_eq_true;omega) | (apply decide_eq_true;simp only[af,ay.len,bG,bF,List.length_set];omega)
   ·simp only[if_neg g1,if_pos g2,if_neg g3]<;>first | rfl | (simp only[bG,bF];done) | (unfold bG bF;rfl) | (unfold bG;rfl) | (unfold bF;rfl)
  ·intro _ _ _ g g' g1 g2 g3
   rw[bV] at g;rw[aI] at g'
   have hI:h=p∨ps.getD p.toNat 0≠-1:= .inr g'
   rw[bV] at g1;rw[bV] at g2
   rw[bY] at g3
   simp only[if_pos hI];unfold yI Ak Ht JF
   refine⟨?_,?_⟩
   ·(repeat' apply And.intro)<;>first | exact trivial | rfl | assumption | omega | (simp only[af,ay.len,bG,bF,List.length_set];done) | (simp only[af,ay.len,bG,bF,List.length_set];omega) | (apply decide_eq_true;omega) | (apply decide_eq_true;simp only[af,ay.len,bG,bF,List.length_set];omega)
   ·simp only[if_neg g1,if_neg g2,if_pos g3]<;>first | rfl | (simp only[bG,bF];done) | (unfold bG bF;rfl) | (unfold bG;rfl) | (unfold bF;rfl)
  ·intro _ _ _ g g' g1 g2 g3
   rw[bV] at g;rw[aI] at g'
   have hI:h=p∨ps.getD p.toNat 0≠-1:= .inr g'
   rw[bV] at g1;rw[bV] at g2
   rw[bV] at g3
   simp only[if_pos hI];unfold yI Ak Ht JF
   refine⟨?_,?_⟩
   ·(repeat' apply And.intro)<;>first | exact trivial | rfl | assumption | omega | (simp only[af,ay.len,bG,bF,List.length_set];done) | (simp only[af,ay.len,bG,bF,List.length_set];omega) | (apply decide_eq_true;omega) | (apply decide_eq_true;simp only[af,ay.len,bG,bF,List.length_set];omega)
   ·simp only[if_neg g1,if_neg g2,if_neg g3]<;>first | rfl | (simp only[bG,bF];done) | (unfold bG bF;rfl) | (unfold bG;rfl) | (unfold bF;rfl)
  ·intro _ _ _ g g' g3
   rw[bV] at g;rw[aQ] at g';rw[bY] at g3
   have hI:¬ (h=p∨ps.getD p.toNat 0≠-1):=by rintro(q | q);exact g q;exact q g'
   simp only[if_neg hI]
   refine⟨?_,?_⟩
   ·(repeat' apply And.intro)<;>first | exact trivial | rfl | assumption | omega | (simp only[af,ay.len,bG,bF,List.length_set];done) | (simp only[af,ay.len,bG,bF,List.length_set];omega) | (apply decide_eq_true;omega) | (apply decide_eq_true;simp only[af,ay.len,bG,bF,List.length_set];omega)
   ·simp only[if_pos g3]
  ·intro _ _ _ g g' g3
   rw[bV] at g;rw[aQ] at g';rw[bV] at g3
   have hI:¬ (h=p∨ps.getD p.toNat 0≠-1):=by rintro(q | q);exact g q;exact q g'
   simp only[if_neg hI]
   refine⟨?_,?_⟩
   ·(repeat' apply And.intro)<;>first | exact trivial | rfl | assumption | omega | (simp only[af,ay.len,bG,bF,List.length_set];done) | (simp only[af,ay.len,bG,bF,List.length_set];omega) | (apply decide_eq_true;omega) | (apply decide_eq_true;simp only[af,ay.len,bG,bF,List.length_set];omega)
   ·simp only[if_neg g3]
 ·simp only[if_neg hO]
  refine bf (bH.aS (.cons Xe (.refl _))) ?_
  unfold toE
  have out:∀ {P:Prop},ah .neq (pG ps no h t) 0=false→ah .lss p 0=false→ah .geq p (ps.length:Int)=false→P:=fun g1 g2 g3=>by
   rw[aQ] at g1;rw[aX] at g2;rw[dS] at g3
   exact absurd ⟨g1,by omega,by omega⟩ hO
  refine Uy ps no h t p _ ?_ ?_ ?_ ?_ ?_ ?_ ?_ ?_ ?_ ?_ ?_ ?_ ?_ ?_ ?_ ?_ ?_<;>dsimp only[Az,Rg,At,Tr.q,Tr.e,qZ]
  ·intro g;rw[aI] at g;exact⟨trivial,by rw[if_neg g]⟩
  ·intro g g2;rw[aQ] at g;rw[aP] at g2;exact⟨trivial,by rw[if_pos g,if_neg (by omega)]⟩
  ·intro g g2 g3;rw[aQ] at g;rw[dV] at g3;exact⟨trivial,by rw[if_pos g,if_neg (by omega)]⟩
  all_goals (intro g1 g2 g3;exact out g1 g2 g3)
def toC:List D→Option (D×List Prop)
 |[.agg [.rc [.ints .i64 ps], .rc [.ints .i64 no], .v (.int .i64 h), .v (.int .i64 t)], .v (.int .i64 p)]=>some ((.aS [.agg [oi (if nX ps no h t p then toP ps no h p else[]),oi (if nX ps no h t p then toN ps no h p else[]),i64 (if nX ps no h t p then p else 0),i64 (if nX ps no h t p then Vl ps no h t p else 0)],i64 (toE ps no h t p)]),[])
 |_=>none
theorem am6 (args res l) (h:toC args=some (res,l)) (hl:aJ l):Kl 66 args res:=by
 unfold toC at h;split at h
 ·obtain⟨rfl,rfl⟩:=dB h
  exact anP _ _ _ _ _
 ·cases h
def ZJ (kx px:List Int) (ux:List Bool) (k p e i n g j:Int):Cs:=⟨TT.of [(0,cc kx px ux),(1,u32 k),(2,i64 p),(6,D.v (Value.slice none 0 0)),(7,i64 e),(9,i64 i),(11,i64 n),(37,cc kx px ux),(38,i64 g),(39,i64 j)],59,[],[],none,0⟩
def pdT (e i:Int) (m:Nat) (j:Int) (kx px:List Int) (ux:List Bool):Cs:=⟨TT.of [(4,D.v (Value.slice none 0 0)),(5,i64 e),(7,i64 i),(9,D.sl 960 0 m ⟨3,0⟩),(10,i64 j)],71,[],[(960,BX.row [.ints .u32 kx, .ints .i64 px, .bools ux] false)],none,0⟩
def X13:aB:=aF 62 (.call tkC) (aF 124 (.call gvC) (aF 122 (.call rmC) (aF 66 (.call toC) X12)))
theorem aeb:bT Pg X13:=aj alQ (aj ak1 (aj amg (aj am6 ach)))
def LK (kx px:List Int) (ux:List Bool) (k p er i n g j:Int):Tr (Ex×Cs):= .e (ah .lss j g) (.s (decide (j<(kx.length:Int))=true) (.s (decide (0≤j)=true) (.e (ux.getD j.toNat false) (.lf (Ex.normal,(ZJ (kx) (px) (ux) (k) (p) (er) (i) (ai .add .i64 n 1) (g) (ai .add .i64 j 1)))) (.lf (Ex.normal,(ZJ (kx) (px) (ux) (k) (p) (er) (i) (n) (g) (ai .add .i64 j 1))))))) (.lf (Ex.exit 0,(ZJ (kx) (px) (ux) (k) (p) (er) (i) (n) (g) (j))))
theorem TU (kx px:List Int) (ux:List Bool) (k p er i n g j:Int) (σ:St) (e:Ex) (h0:Rg 65 0 e σ (LK kx px ux k p er i n g j) [true,true]) (h1:Rg 65 0 e σ (LK kx px ux k p er i n g j) [true,false]) (h2:Rg 65 0 e σ (LK kx px ux k p er i n g j) [false]):Rn 65 0 (ZJ kx px ux k p er i n g j).abs e σ:=qH (aeb) [[0,1,2,6,7,9,11,37,38,39]] [] (LK kx px ux k p er i n g j) ⟨fun e0=>⟨h0 e0,h1 e0⟩,h2⟩
def OY (kx px:List Int) (ux:List Bool) (k p n:Int):Tr D:= .s (okI kx) (.e (ah .neq (uw kx px ux) 0) (.lf (D.aS [bZ,i64 (uw kx px ux)])) (.e (ah .lss p 0) (.p (.c 1) (.lf (D.aS [bZ,i64 2]))) (.p (.c 0) (.e (ah .geq p 16) (.lf (D.aS [bZ,i64 2])) (.s (Vy kx ux k) (.s (decide ((dn kx ux k:Int)<(kx.length:Int))=true) (.s (decide ((0:Int)≤(dn kx ux k:Int))=true) (.e (ux.getD (dn kx ux k:Int).toNat false) (.lf (D.aS [bZ,i64 14])) (.p (.l [[0,1,2,6,7,9,11,37,38,39]] [] (ZJ kx px ux k p 0 (dn kx ux k:Int) 0 ((kx.length:Int)) 0) (Ex.exit 0) (ZJ kx px ux k p 0 (dn kx ux k:Int) n (kx.length:Int) (kx.length:Int))) (.s (Rl 65 0 (ZJ kx px ux k p 0 (dn kx ux k:Int) 0 ((kx.length:Int)) 0).abs (Ex.exit 0) (ZJ kx px ux k p 0 (dn kx ux k:Int) n (kx.length:Int) (kx.length:Int)).abs) (.k ((ZJ kx px ux k p 0 (dn kx ux k:Int) 0 ((kx.length:Int)) 0=ZJ kx px ux k p 0 (dn kx ux k:Int) 0 ((kx.length:Int)) 0)) rfl (.e (ah .geq n 12) (.lf (D.aS [bZ,i64 18])) (.s (FM kx px ux) (.s (decide ((dn kx ux k:Int)<(kx.length:Int))=true) (.s (decide ((0:Int)≤(dn kx ux k:Int))=true) (.s (ux.length=kx.length) (.s (px.length=kx.length) (.s (kx.length=kx.length) (.s ((dn kx ux k:Int).toNat<kx.length) (.s (kx.length=(kx.set (dn kx ux k:Int).toNat k).length) (.lf (D.aS [D.oc [.ints .u32 (kx.set (dn kx ux k:Int).toNat k), .ints .i64 (px.set (dn kx ux k:Int).toNat p), .bools (ux.set (dn kx ux k:Int).toNat true)],i64 0]))))))))))))))))))))))
theorem Sv (kx px:List Int) (ux:List Bool) (k p n:Int) (res:D) (h0:Az res (OY kx px ux k p n) [true]) (h1:Az res (OY kx px ux k p n) [false,true]) (h2:Az res (OY kx px ux k p n) [false,false,true]) (h3:Az res (OY kx px ux k p n) [false,false,false,true]) (h4:Az res (OY kx px ux k p n) [false,false,false,false,true]) (h5:Az res (OY kx px ux k p n) [false,false,false,false,false]):Kl 65 [cc kx px ux,u32 k,i64 p] res:=fA (aeb) (OY kx px ux k p n) ⟨h0,fun e0=>⟨h1 e0,fun e1=>⟨h2 e0 e1,fun e2=>⟨h3 e0 e1 e2,fun e3=>⟨h4 e0 e1 e2 e3,h5 e0 e1 e2 e3⟩⟩⟩⟩⟩
def Aj (kx px:List Int) (ux:List Bool) (k p:Int):Prop:=uw kx px ux=0∧(0≤p∧p<16)∧ux.getD (dn kx ux k) false=false∧gq kx.length ux<12
instance (kx px:List Int) (ux:List Bool) (k p:Int):Decidable (Aj kx px ux k p):=by unfold Aj;exact inferInstance
def ppE (kx px:List Int) (ux:List Bool) (k p:Int):Int:=if uw kx px ux=0 then(if 0≤p∧p<16 then(if ux.getD (dn kx ux k) false=true then 14 else if gq kx.length ux<12 then 0 else 18) else 2) else uw kx px ux
theorem ah2 (kx px:List Int) (ux:List Bool) (k p e i:Int) (h:kx.length≤200):
  Rl 65 0 (ZJ kx px ux k p e i 0 kx.length 0).abs (.exit 0) (ZJ kx px ux k p e i (gq kx.length ux:Nat) kx.length kx.length).abs:=by
 refine au ?_
 refine fF (fun j=>ZJ kx px ux k p e i (gq j ux:Nat) kx.length (j:Int)) kx.length (fun _=>True) (fun j hi _ σ ex hr=>?_) ?_ kx.length 0 (by omega) (fun _ _ _=>trivial)
 ·refine TU kx px ux k p e i _ kx.length j σ ex ?_ ?_ ?_<;>dsimp only[Az,Rg,At,Tr.q,Tr.e,RG,LK]
  ·intro _ g
   rw[Int.toNat_natCast] at g
   rw[dW hi h];unfold gq;rw[cnt1 hi h]
   refine⟨⟨(aA hi).1,(aA hi).2,trivial⟩,?_⟩
   simp only[gq,cnt,g,cond_true] at hr;exact hr
  ·intro _ g
   rw[Int.toNat_natCast] at g
   rw[dW hi h]
   refine⟨⟨(aA hi).1,(aA hi).2,trivial⟩,?_⟩
   simp only[gq,cnt,g,cond_false,Nat.add_zero] at hr;exact hr
  ·intro g;rw[aX] at g;omega
 ·refine TU kx px ux k p e i _ kx.length kx.length _ _ ?_ ?_ ?_<;>dsimp only[Az,Rg,At,Tr.q,Tr.e,RG,LK]
  ·intro g;rw[aP] at g;omega
  ·intro g;rw[aP] at g;omega
  ·intro _;exact⟨trivial,rfl,rfl⟩
theorem U6 (e:Int):jW (D.aS [D.v (Value.slice none 0 0),i64 e]) (.aS [cco [] [] [],i64 e]):=bH.aS (.cons (.nil rfl) (.refl _))
theorem aox (kx px:List Int) (ux:List Bool) (k p:Int) (h:okI kx∧eX k∧FM kx px ux):Kl 65 [cc kx px ux,u32 k,i64 p]
  (.aS [cco (if Aj kx px ux k p then kx.set (dn kx ux k) k else[]) (if Aj kx px ux k p then px.set (dn kx ux k) p else[]) (if Aj kx px ux k p then ux.set (dn kx ux k) true else[]),i64 (ppE kx px ux k p)]):=by
 obtain⟨h,hk,hc⟩:=h
 have hlt:=Aa (kx:=kx) ux hk
 have hl:=ah2 kx px ux k p 0 (dn kx ux k:Int) h.1
 have side:uw kx px ux=0→Vy kx ux k∧kx.length=16:=fun e=>by
  obtain⟨c1,c2,_⟩:=zH e
  exact⟨⟨c1,hk,jK (by omega)⟩,c1⟩
 have hc':=hc
 obtain⟨_,hc1,hc2⟩:=hc'
 by_cases hO:Aj kx px ux k p
 ·have hO':=hO
  obtain⟨c,⟨p0,p1⟩,hu,hn⟩:=hO'
  obtain⟨s1,s2⟩:=side c
  have hE:ppE kx px ux k p=0:=by unfold ppE;rw[if_pos c,if_pos ⟨p0,p1⟩,if_neg (by rw[hu];simp),if_pos hn]
  simp only[if_pos hO];rw[hE]
  have b:=aA (n:=kx.length) (i:=dn kx ux k) (by omega)
  refine Sv kx px ux k p (gq kx.length ux:Nat) _ ?_ ?_ ?_ ?_ ?_ ?_<;>dsimp only[Az,Rg,At,Tr.q,Tr.e,OY]
  ·intro g;rw[aI] at g;exact absurd c g
  ·intro _ g;rw[aP] at g;omega
  ·intro _ _ g;rw[dV] at g;omega
  ·intro _ _ _ g;rw[Int.toNat_natCast,hu] at g;cases g
  ·intro _ _ _ _ g;rw[dV] at g;omega
  ·intro _ _ _ _ _
   refine⟨⟨by rw[List.length_set],by rw[Int.toNat_natCast];omega,rfl,by omega,by omega,b.1,b.2,hc,hl,b.1,b.2,s1,h,trivial⟩,?_⟩
   rw[Int.toNat_natCast]
 ·simp only[if_neg hO]
  refine bf (U6 _) ?_
  unfold ppE
  refine Sv kx px ux k p (gq kx.length ux:Nat) _ ?_ ?_ ?_ ?_ ?_ ?_<;>dsimp only[Az,Rg,At,Tr.q,Tr.e,OY]
  ·intro g;rw[aI] at g;exact⟨⟨h,trivial⟩,by rw[if_neg g]⟩
  ·intro g g2;rw[aQ] at g;rw[aP] at g2;exact⟨⟨h,trivial⟩,by rw[if_pos g,if_neg (by omega)]⟩
  ·intro g g2 g3;rw[aQ] at g;rw[dV] at g3;exact⟨⟨h,trivial⟩,by rw[if_pos g,if_neg (by omega)]⟩
  ·intro g g2 g3 g4
   rw[aQ] at g;rw[aX] at g2;rw[dS] at g3;rw[Int.toNat_natCast] at g4
   obtain⟨s1,s2⟩:=side g
   have b:=aA (n:=kx.length) (i:=dn kx ux k) (by omega)
   exact⟨⟨b.1,b.2,s1,h,trivial⟩,by rw[if_pos g,if_pos ⟨by omega,by omega⟩,if_pos g4]⟩
  ·intro g g2 g3 g4 g5
   rw[aQ] at g;rw[aX] at g2;rw[dS] at g3;rw[Int.toNat_natCast] at g4;rw[dV] at g5
   obtain⟨s1,s2⟩:=side g
   have b:=aA (n:=kx.length) (i:=dn kx ux k) (by omega)
   exact⟨⟨hl,b.1,b.2,s1,h,trivial⟩,by rw[if_pos g,if_pos ⟨by omega,by omega⟩,if_neg (by rw[g4];simp),if_neg (by omega)]⟩
  ·intro g g2 g3 g4 g5
   rw[aQ] at g;rw[aX] at g2;rw[dS] at g3;rw[Int.toNat_natCast] at g4;rw[dS] at g5
   exact absurd ⟨g,⟨by omega,by omega⟩,g4,by omega⟩ hO
def ppC:List D→Option (D×List Prop)
 |[.rc [.ints .u32 kx, .ints .i64 px, .bools ux], .v (.int .u32 k), .v (.int .i64 p)]=>some ((.aS [cco (if Aj kx px ux k p then kx.set (dn kx ux k) k else[]) (if Aj kx px ux k p then px.set (dn kx ux k) p else[]) (if Aj kx px ux k p then ux.set (dn kx ux k) true else[]),i64 (ppE kx px ux k p)]),[okI kx∧eX k∧FM kx px ux])
 |_=>none
theorem akq (args res l) (h:ppC args=some (res,l)) (hl:aJ l):Kl 65 args res:=by
 unfold ppC at h;split at h
 ·obtain⟨rfl,rfl⟩:=dB h;obtain⟨h0,_⟩:=hl
  exact aox _ _ _ _ _ h0
 ·cases h
def Qv (j:Int):=ai .and .i64 (ai .add .i64 j 1) 15
def am7 (i j:Int):=ai .and .i64 (ai .sub .i64 j i) 15
def akQ (i j:Int) (kx:List Int):=ai .sub .i64 (ai .sub .i64 (cO (kx.getD j.toNat 0)) i) 1
def acK (i j:Int) (kx:List Int):=ah .geq (ai .and .i64 (akQ i j kx) 15) (am7 i j)
def H6 (er i:Int) (m:Nat) (j:Int) (kx px:List Int) (ux:List Bool):Tr (Ex×Cs):= .s (decide (j< ↑m)=true) (.s (decide (0≤j)=true) (.s (j.toNat<kx.length) (.e (ux.getD j.toNat false) (.s (decide (j< ↑m)=true) (.s (decide (0≤j)=true) (.s (j.toNat<kx.length) (.s (eX (kx.getD j.toNat 0)) (.e (acK i j kx) (.s (decide (j< ↑m)=true) (.s (decide (0≤j)=true) (.s (j.toNat<kx.length) (.s (decide (i< ↑m)=true) (.s (decide (0≤i)=true) (.s (ux.length=kx.length) (.s (px.length=kx.length) (.s (kx.length=kx.length) (.s (i.toNat<kx.length) (.lf (Ex.normal,(pdT (er) (j) (m) (Qv j) (kx.set i.toNat (kx.getD j.toNat 0)) (px.set i.toNat (px.getD j.toNat 0)) (ux.set i.toNat (ux.getD j.toNat false)))))))))))))) (.lf (Ex.normal,(pdT (er) (i) (m) (Qv j) (kx) (px) (ux))))))))) (.lf (Ex.exit 0,(pdT (er) (i) (m) (j) (kx) (px) (ux)))))))
theorem Jc (er i:Int) (m:Nat) (j:Int) (kx px:List Int) (ux:List Bool) (σ:St) (e:Ex) (h0:Rg 123 0 e σ (H6 er i m j kx px ux) [true,true]) (h1:Rg 123 0 e σ (H6 er i m j kx px ux) [true,false]) (h2:Rg 123 0 e σ (H6 er i m j kx px ux) [false]):Rn 123 0 (pdT er i m j kx px ux).abs e σ:=qH (aeb) [[4,5,7,9,10]] [(960,960)] (H6 er i m j kx px ux) ⟨fun e0=>⟨h0 e0,h1 e0⟩,h2⟩
def abu (kx px:List Int) (ux:List Bool) (k i j:Int) (ky py:List Int) (uy:List Bool):Tr D:= .s (okI kx) (.e (ah .neq (uw kx px ux) 0) (.lf (D.aS [bZ,i64 (uw kx px ux)])) (.s (Vy kx ux k) (.s (decide ((dn kx ux k:Int)<(kx.length:Int))=true) (.s (decide ((0:Int)≤(dn kx ux k:Int))=true) (.e (!ux.getD (dn kx ux k:Int).toNat false) (.lf (D.aS [bZ,i64 6])) (.p (.l [[4,5,7,9,10]] [(960,960)] (pdT 0 (dn kx ux k:Int) (kx.length) (ai .and .i64 (ai .add .i64 (dn kx ux k:Int) 1) 15) kx px ux) (Ex.exit 0) (pdT 0 i (kx.length) j ky py uy)) (.s (FM kx px ux) (.s (Rl 123 0 (pdT 0 (dn kx ux k:Int) (kx.length) (ai .and .i64 (ai .add .i64 (dn kx ux k:Int) 1) 15) kx px ux).abs (Ex.exit 0) (pdT 0 i (kx.length) j ky py uy).abs) (.k ((pdT 0 (dn kx ux k:Int) (kx.length) (ai .and .i64 (ai .add .i64 (dn kx ux k:Int) 1) 15) kx px ux=pdT 0 (dn kx ux k:Int) (kx.length) (ai .and .i64 (ai .add .i64 (dn kx ux k:Int) 1) 15) kx px ux)) rfl (.s (decide (i<(kx.length:Int))=true) (.s (decide (0≤i)=true) (.s (uy.length=ky.length) (.s (py.length=ky.length) (.s (ky.length=ky.length) (.s (i.toNat<ky.length) (.s (kx.length=(ky.set i.toNat 0).length) (.lf (D.aS [D.oc [.ints .u32 (ky.set i.toNat 0), .ints .i64 (py.set i.toNat 0), .bools (uy.set i.toNat false)],i64 0]))))))))))))))))))
theorem Ub (kx px:List Int) (ux:List Bool) (k i j:Int) (ky py:List Int) (uy:List Bool) (res:D) (h0:Az res (abu kx px ux k i j ky py uy) [true]) (h1:Az res (abu kx px ux k i j ky py uy) [false,true]) (h2:Az res (abu kx px ux k i j ky py uy) [false,false]):Kl 123 [cc kx px ux,u32 k] res:=fA (aeb) (abu kx px ux k i j ky py uy) ⟨h0,fun e0=>⟨h1 e0,h2 e0⟩⟩
structure Dp where
 i:Nat
 j:Nat
 kx:List Int
 px:List Int
 ux:List Bool
def dpC (kx:List Int) (i j:Nat):Bool:=ah .geq (ai .and .i64 (ai .sub .i64 (ai .sub .i64 (cO (kx.getD j 0)) i) 1) 15) (ai .and .i64 (ai .sub .i64 j i) 15)
def pU:Nat→Dp→Dp
 |0,R=>R
 |d+1,R=>if R.ux.getD R.j false=true then
   (if dpC R.kx R.i R.j=true then pU d ⟨R.j,(R.j+1)%16,R.kx.set R.i (R.kx.getD R.j 0),R.px.set R.i (R.px.getD R.j 0),R.ux.set R.i (R.ux.getD R.j false)⟩ else pU d { R with j:=(R.j+1)%16 }) else R
def aby (R:Dp):Prop:=R.i<16∧R.j<16∧R.kx.length=16∧R.px.length=16∧R.ux.length=16∧(∀ j,j<16→eX (R.kx.getD j 0))∧R.ux.getD R.i false=true
theorem fE {l:List Bool} {i:Nat} {x:Bool} (h:i<l.length):(l.set i x).getD i false=x:=by
 rw[List.getD_eq_getElem?_getD,List.getElem?_set_self h];rfl
theorem fQ {l:List Bool} {i j:Nat} {x:Bool} (h:i≠j):(l.set i x).getD j false=l.getD j false:=by
 rw[List.getD_eq_getElem?_getD,List.getElem?_set_ne h,←List.getD_eq_getElem?_getD]
theorem Po:∀ (D d:Nat) (R:Dp),aby R→d<D→R.ux.getD ((R.j+d)%16) false=false→
  aby (pU D R)∧Rn 123 0 (pdT 0 R.i 16 R.j R.kx R.px R.ux).abs (.exit 0) (pdT 0 (pU D R).i 16 (pU D R).j (pU D R).kx (pU D R).px (pU D R).ux).abs
 |0,d,R,_,h,_=>by omega
 |D+1,d,R,ho,hd,hf=>by
  obtain⟨o1,o2,o3,o4,o5,o6,o7⟩:=ho
  have bi:=aA (n:=16) (i:=R.i) o1
  have bj:=aA (n:=16) (i:=R.j) o2
  have hk:eX (R.kx.getD (R.j:Int).toNat 0):=by rw[Int.toNat_natCast];exact o6 R.j o2
  have nx:ai .and .i64 (ai .add .i64 (R.j:Int) 1) 15=(((R.j+1)%16:Nat):Int):=by
   rw[dH,aY (by omega) (by omega),adT (by omega) (by omega)];omega
  have e3:acK (R.i:Int) (R.j:Int) R.kx=dpC R.kx R.i R.j:=rfl
  by_cases c:R.ux.getD R.j false=true
  ·have hd0:d≠0:=fun e=>by
    subst e
    rw[Nat.add_zero,Nat.mod_eq_of_lt o2,c] at hf;cases hf
   by_cases c2:dpC R.kx R.i R.j=true
   ·have e:pU (D+1) R=pU D ⟨R.j,(R.j+1)%16,R.kx.set R.i (R.kx.getD R.j 0),R.px.set R.i (R.px.getD R.j 0),R.ux.set R.i (R.ux.getD R.j false)⟩:=by simp only[pU,if_pos c,if_pos c2]
    have hne:R.i≠(R.j+d)%16:=fun q=>by rw[←q,o7] at hf;cases hf
    have ih:=Po D (d - 1) ⟨R.j,(R.j+1)%16,R.kx.set R.i (R.kx.getD R.j 0),R.px.set R.i (R.px.getD R.j 0),R.ux.set R.i (R.ux.getD R.j false)⟩
     ⟨o2,by show(R.j+1)%16<16;omega,by show(List.set _ _ _).length=16;rw[List.length_set];exact o3,by show(List.set _ _ _).length=16;rw[List.length_set];exact o4,by show(List.set _ _ _).length=16;rw[List.length_set];exact o5,fun j hj=>by
      show eX ((R.kx.set R.i (R.kx.getD R.j 0)).getD j 0)
      by_cases q:R.i=j
      ·subst q;rw[aN (by omega)];exact o6 R.j o2
      ·rw[getD_set_ne q];exact o6 j hj,by
      show(R.ux.set R.i (R.ux.getD R.j false)).getD R.j false=true
      by_cases q:R.i=R.j
      ·rw[q,fE (by omega)];exact c
      ·rw[fQ q];exact c⟩ (by omega) (by
      show(R.ux.set R.i (R.ux.getD R.j false)).getD (((R.j+1)%16+(d - 1))%16) false=false
      rw[show((R.j+1)%16+(d - 1))%16=(R.j+d)%16 by omega,fQ hne];exact hf)
    rw[e]
    refine⟨ih.1,?_⟩
    refine Jc 0 R.i 16 R.j R.kx R.px R.ux _ _ ?_ ?_ ?_<;>dsimp only[Az,Rg,At,Tr.q,Tr.e,RG,H6]
    ·intro _ _
     rw[show Qv (R.j:Int)=(((R.j+1)%16:Nat):Int) from nx]
     refine⟨?_,?_⟩
     ·(repeat' apply And.intro)<;>first | exact trivial | rfl | assumption | exact hk.1 | exact hk.2 | exact bi.1 | exact bi.2 | exact bj.1 | exact bj.2 | omega | (simp only[Int.toNat_natCast];omega)
     ·simp only[Int.toNat_natCast];exact ih.2
    ·intro _ g
     rw[e3,c2] at g;cases g
    ·intro g;rw[Int.toNat_natCast,c] at g;cases g
   ·have e:pU (D+1) R=pU D { R with j:=(R.j+1)%16 }:=by simp only[pU,if_pos c,if_neg c2]
    have ih:=Po D (d - 1) { R with j:=(R.j+1)%16 } ⟨o1,by show(R.j+1)%16<16;omega,o3,o4,o5,o6,o7⟩ (by omega) (by
     show R.ux.getD (((R.j+1)%16+(d - 1))%16) false=false
     rw[show((R.j+1)%16+(d - 1))%16=(R.j+d)%16 by omega];exact hf)
    rw[e]
    refine⟨ih.1,?_⟩
    refine Jc 0 R.i 16 R.j R.kx R.px R.ux _ _ ?_ ?_ ?_<;>dsimp only[Az,Rg,At,Tr.q,Tr.e,RG,H6]
    ·intro _ g
     rw[e3] at g
     exact absurd g c2
    ·intro _ _
     rw[show Qv (R.j:Int)=(((R.j+1)%16:Nat):Int) from nx]
     refine⟨?_,ih.2⟩
     (repeat' apply And.intro)<;>first | exact trivial | rfl | assumption | exact hk.1 | exact hk.2 | exact bi.1 | exact bi.2 | exact bj.1 | exact bj.2 | omega | (simp only[Int.toNat_natCast];omega)
    ·intro g;rw[Int.toNat_natCast,c] at g;cases g
  ·have e:pU (D+1) R=R:=by simp only[pU,if_neg c]
   rw[e]
   refine⟨⟨o1,o2,o3,o4,o5,o6,o7⟩,?_⟩
   refine Jc 0 R.i 16 R.j R.kx R.px R.ux _ _ ?_ ?_ ?_<;>dsimp only[Az,Rg,At,Tr.q,Tr.e,RG,H6]
   ·intro g;rw[Int.toNat_natCast] at g;exact absurd g c
   ·intro g;rw[Int.toNat_natCast] at g;exact absurd g c
   ·intro _
    refine⟨?_,rfl,rfl⟩
    (repeat' apply And.intro)<;>first | exact trivial | rfl | assumption | exact bj.1 | exact bj.2 | omega | (simp only[Int.toNat_natCast];omega)
def IA (kx px:List Int) (ux:List Bool) (k:Int):Prop:=uw kx px ux=0∧ux.getD (dn kx ux k) false=true
instance (kx px:List Int) (ux:List Bool) (k:Int):Decidable (IA kx px ux k):=by unfold IA;exact inferInstance
def kP (kx px:List Int) (ux:List Bool) (k:Int):Dp:=pU 16 ⟨dn kx ux k,(dn kx ux k+1)%16,kx,px,ux⟩
def dpE (kx px:List Int) (ux:List Bool) (k:Int):Int:=if uw kx px ux=0 then(if ux.getD (dn kx ux k) false=true then 0 else 6) else uw kx px ux
theorem anG (kx px:List Int) (ux:List Bool) (k:Int) (h:okI kx∧eX k∧FM kx px ux):Kl 123 [cc kx px ux,u32 k]
  (.aS [cco (if IA kx px ux k then(kP kx px ux k).kx.set (kP kx px ux k).i 0 else[]) (if IA kx px ux k then(kP kx px ux k).px.set (kP kx px ux k).i 0 else[]) (if IA kx px ux k then(kP kx px ux k).ux.set (kP kx px ux k).i false else[]),i64 (dpE kx px ux k)]):=by
 obtain⟨h,hk,hc⟩:=h
 have hlt:=Aa (kx:=kx) ux hk
 have side:uw kx px ux=0→Vy kx ux k∧kx.length=16:=fun e=>by
  obtain⟨c1,c2,_⟩:=zH e
  exact⟨⟨c1,hk,jK (by omega)⟩,c1⟩
 have hc':=hc
 obtain⟨_,hc1,hc2⟩:=hc'
 by_cases hO:IA kx px ux k
 ·have hO':=hO
  obtain⟨c,hu⟩:=hO'
  obtain⟨s1,s2⟩:=side c
  obtain⟨_,_,f,hf,hz⟩:=s1
  have hE:dpE kx px ux k=0:=by unfold dpE;rw[if_pos c,if_pos hu]
  simp only[if_pos hO];rw[hE]
  have b:=aA (n:=kx.length) (i:=dn kx ux k) (by omega)
  obtain⟨r1,r2⟩:=Po 16 ((f+16 - (dn kx ux k+1)%16)%16) ⟨dn kx ux k,(dn kx ux k+1)%16,kx,px,ux⟩ ⟨hlt,by show(dn kx ux k+1)%16<16;omega,s2,by show px.length=16;omega,by show ux.length=16;omega,fun j hj=>h.2 j (by omega),hu⟩ (by omega) (by
   show ux.getD (((dn kx ux k+1)%16+(f+16 - (dn kx ux k+1)%16)%16)%16) false=false
   rw[show((dn kx ux k+1)%16+(f+16 - (dn kx ux k+1)%16)%16)%16=f by omega];exact hz)
  have r3:aby (kP kx px ux k):=r1
  have r4:=au r2
  have nx:ai .and .i64 (ai .add .i64 (dn kx ux k:Int) 1) 15=(((dn kx ux k+1)%16:Nat):Int):=by
   rw[dH,aY (by omega) (by omega),adT (by omega) (by omega)];omega
  obtain⟨q1,q2,q3,q4,q5,_⟩:=r3
  refine Ub kx px ux k (kP kx px ux k).i (kP kx px ux k).j (kP kx px ux k).kx (kP kx px ux k).px (kP kx px ux k).ux _ ?_ ?_ ?_<;>dsimp only[Az,Rg,At,Tr.q,Tr.e,abu]
  ·intro g;rw[aI] at g;exact absurd c g
  ·intro _ g;rw[Int.toNat_natCast,hu] at g;cases g
  ·intro _ _
   refine⟨⟨by rw[List.length_set];omega,by rw[Int.toNat_natCast];omega,rfl,by omega,by omega,(aA (n:=16) q1).1,by rw[s2];exact(aA (n:=16) q1).2,?_,hc,b.1,b.2,⟨s2,hk,f,hf,hz⟩,h,trivial⟩,by rw[Int.toNat_natCast]⟩
   rw[nx,s2];exact r4
 ·simp only[if_neg hO]
  refine bf (U6 _) ?_
  unfold dpE
  refine Ub kx px ux k 0 0 [] [] [] _ ?_ ?_ ?_<;>dsimp only[Az,Rg,At,Tr.q,Tr.e,abu]
  ·intro g;rw[aI] at g;exact⟨⟨h,trivial⟩,by rw[if_neg g]⟩
  ·intro g g2;rw[aQ] at g;rw[Int.toNat_natCast] at g2
   obtain⟨s1,s2⟩:=side g
   have b:=aA (n:=kx.length) (i:=dn kx ux k) (by omega)
   have g3:ux.getD (dn kx ux k) false=false:=by simpa using g2
   exact⟨⟨b.1,b.2,s1,h,trivial⟩,by rw[if_pos g,if_neg (by rw[g3];simp)]⟩
  ·intro g g2;rw[aQ] at g;rw[Int.toNat_natCast] at g2
   exact absurd ⟨g,by simpa using g2⟩ hO
def pdC:List D→Option (D×List Prop)
 |[.rc [.ints .u32 kx, .ints .i64 px, .bools ux], .v (.int .u32 k)]=>some ((.aS [cco (if IA kx px ux k then(kP kx px ux k).kx.set (kP kx px ux k).i 0 else[]) (if IA kx px ux k then(kP kx px ux k).px.set (kP kx px ux k).i 0 else[]) (if IA kx px ux k then(kP kx px ux k).ux.set (kP kx px ux k).i false else[]),i64 (dpE kx px ux k)]),[okI kx∧eX k∧FM kx px ux])
 |_=>none
theorem akh (args res l) (h:pdC args=some (res,l)) (hl:aJ l):Kl 123 args res:=by
 unfold pdC at h;split at h
 ·obtain⟨rfl,rfl⟩:=dB h;obtain⟨h0,_⟩:=hl
  exact anG _ _ _ _ h0
 ·cases h
theorem F6 {nx:List Int} {us:List Bool} {f:Int} {F:List Int} (a:Ar nx us f F) (hf:f≠-1):
  ∃ F',F=f::F'∧0≤f∧f<(nx.length:Int)∧Ar (nx.set f.toNat (-1)) (us.set f.toNat true) (nx.getD f.toNat 0) F':=by
 obtain⟨c1,c2,c3,c4,c5,c6⟩:=a
 rcases Bg c5 with⟨_,e⟩ | ⟨F',e⟩
 ·exact absurd e hf
 ·subst e
  obtain⟨_,b,s⟩:=c5
  rw[List.nodup_cons] at c4
  refine⟨F',rfl,b.1,b.2,by rw[List.length_set];exact c1,by rw[List.length_set];exact c2,by rw[List.length_set,List.length_set];exact c3,c4.2,nO (by rw[show((f.toNat:Nat):Int)=f by omega];exact c4.1) s,fun i hi=>?_⟩
  rw[List.length_set] at hi
  obtain⟨g1,g2⟩:=c6 i hi
  by_cases e:i=f.toNat
  ·subst e
   rw[fE (by omega),aN (by omega)]
   refine⟨?_,fun _=>rfl⟩
   rw[show((f.toNat:Nat):Int)=f by omega];simp[c4.1]
  ·rw[fQ (by omega),getD_set_ne (by omega)]
   refine⟨?_,g2⟩
   rw[g1]
   have:(i:Int)≠f:=by omega
   simp[this]
theorem aiT {nx:List Int} {us:List Bool} {f p:Int} {F:List Int} (a:Ar nx us f F) (h0:0≤p) (h1:p<(nx.length:Int)) (hu:us.getD p.toNat false=true):
  Ar (nx.set p.toNat f) (us.set p.toNat false) p (p::F):=by
 obtain⟨c1,c2,c3,c4,c5,c6⟩:=a
 have hp:p∉F:=fun m=>by
  have:=(c6 p.toNat (by omega)).1
  rw[hu,show((p.toNat:Nat):Int)=p by omega] at this
  simp[m] at this
 refine⟨by rw[List.length_set];exact c1,by rw[List.length_set];exact c2,by rw[List.length_set,List.length_set];exact c3,List.nodup_cons.2 ⟨hp,c4⟩,⟨rfl,⟨h0,by rw[List.length_set];exact h1⟩,?_⟩,fun i hi=>?_⟩
 ·rw[aN (by omega)]
  exact nO (by rw[show((p.toNat:Nat):Int)=p by omega];exact hp) c5
 ·rw[List.length_set] at hi
  obtain⟨g1,g2⟩:=c6 i hi
  by_cases e:i=p.toNat
  ·subst e
   rw[fE (by omega),show((p.toNat:Nat):Int)=p by omega]
   exact⟨by simp,fun h=>by cases h⟩
  ·rw[fQ (by omega),getD_set_ne (by omega)]
   refine⟨?_,g2⟩
   rw[g1]
   have:(i:Int)≠p:=by omega
   simp[this]
def wo (L:List Int) (p:Int):List Int:=L.filter fun x=>decide (x≠p)
theorem GK {L:List Int} {p:Int} (h:p∉L):wo L p=L:=by
 unfold wo;rw[List.filter_eq_self]
 intro x hx;simp;intro e;subst e;exact h hx
theorem ae0 {A B:List Int} {p:Int} (h:(A ++ p::B).Nodup):wo (A ++ p::B) p=A ++ B:=by
 rw[List.nodup_append,List.nodup_cons] at h
 have e1:wo A p=A:=GK fun m=>h.2.2 p m p (by simp) rfl
 have e2:wo B p=B:=GK h.2.1.1
 unfold wo at e1 e2 ⊢
 rw[List.filter_append,List.filter_cons,e1,e2];simp
theorem uQ {L:List Int} {p x:Int}:x∈wo L p↔x∈L∧x≠p:=by
 unfold wo;rw[List.mem_filter];simp
theorem uI (A:List Int):A=[]∨∃ B a,A=B ++ [a]:=by
 rcases List.eq_nil_or_concat A with e | ⟨B,a,e⟩
 ·exact .inl e
 ·exact .inr ⟨B,a,by rw[e,List.concat_eq_append]⟩
theorem OG {ps no:List Int} {h t p:Int} {L:List Int} (o:Or ps no h t L) (h0:0≤p) (h1:p<(ps.length:Int)):(h=p∨ps.getD p.toNat 0≠-1)↔p∈L:=by
 obtain⟨c1,c2,c3,c4,c5,c6,c7,c8⟩:=o
 constructor
 ·rintro(e | e)
  ·subst e
   rcases Bg c5 with⟨_,q⟩ | ⟨B,q⟩
   ·omega
   ·rw[q];simp
  ·exact Classical.byContradiction fun n=>e (c8 p.toNat (by omega) (by rw[show((p.toNat:Nat):Int)=p by omega];exact n)).1
 ·intro m
  obtain⟨A,B,e⟩:=List.append_of_mem m
  subst e
  obtain⟨k,s1,s2⟩:=yc.1 c5
  obtain⟨b1,b2⟩:=Bl.1 c6
  rcases uI A with e | ⟨A',a,e⟩
  ·subst e
   exact .inl (by rw[show h=k from s1];exact s2.1)
  ·subst e
   refine .inr ?_
   rw[b2.1,mZ]
   have:=gU s1 a (by simp)
   omega
theorem alJ {ps no:List Int} {h t p:Int} {A B:List Int} (o:Or ps no h t (A ++ p::B)):Or (yI ps no p) (Ak ps no p) (Ht ps no h p) (JF ps no t p) (A ++ B):=by
 obtain⟨c1,c2,c3,c4,c5,c6,c7,c8⟩:=o
 obtain⟨k,s1,ek,rp,s2⟩:=yc.1 c5
 subst ek
 obtain⟨b1,b2,b3⟩:=Bl.1 c6
 have hr:=gU s1
 have hr2:=gU s2
 rw[zO] at c7
 have c7':t=lW k B:=c7
 have hn:(A ++ B).Nodup∧k∉A∧k∉B∧∀ x∈A,x∉B:=by
  rw[List.nodup_append,List.nodup_cons] at c4
  refine⟨List.nodup_append.2 ⟨c4.1,c4.2.1.2,fun a ha b hb=>c4.2.2 a ha b (by simp[hb])⟩,fun m=>c4.2.2 k m k (by simp) rfl,c4.2.1.1,fun x hx hb=>c4.2.2 x hx x (by simp[hb]) rfl⟩
 obtain⟨n1,n2,n3,n4⟩:=hn
 have nk:((k.toNat:Nat):Int)=k:=by omega
 have lenP:(yI ps no k).length=ps.length:=by unfold yI;split<;>simp
 have aV:(Ak ps no k).length=no.length:=by unfold Ak;split<;>simp
 have bA:∀ x∈A,0≤x:=fun x hx=>(hr x hx).1
 have bB:∀ x∈B,0≤x:=fun x hx=>(hr2 x hx).1
 have hseg:Seg (Ak ps no k) (Ht ps no h k) (A ++ B) (-1):=by
  unfold Ak Ht
  rcases uI A with e | ⟨A',a,e⟩
  ·subst e
   rw[show ps.getD k.toNat 0=-1 from b2,if_pos rfl,if_pos rfl,List.nil_append]
   exact nO (by rw[nk];exact n3) s2
  ·subst e
   rw[mZ] at b2
   have ra:=hr a (by simp)
   rw[b2,if_neg (by omega),if_neg (by omega)]
   refine yc.2 ⟨no.getD k.toNat 0,nO (by rw[nk];exact n2) (adV ?_ s1),nO (by rw[nk];exact n3) (nO (by rw[show((a.toNat:Nat):Int)=a by omega];exact n4 a (by simp)) s2)⟩
   rw[List.nodup_append] at n1;exact n1.1
 have hback:Back (yI ps no k) (-1) (A ++ B):=by
  unfold yI
  cases B with
  |nil=>
   rw[show no.getD k.toNat 0=-1 from s2,if_pos rfl,List.append_nil]
   exact oC (by rw[nk];exact n2) bA b1
  |cons b B=>
   obtain⟨e,rb,s3⟩:=s2
   obtain⟨b4,b5⟩:=b3
   rw[e,if_neg (by omega),b2]
   have nb:((b.toNat:Nat):Int)=b:=by omega
   have nbA:b∉A:=fun m=>n4 b m (by simp)
   refine Bl.2 ⟨oC (by rw[nk];exact n2) bA (oC (by rw[nb];exact nbA) bA b1),?_,?_⟩
   ·have:b≠k:=fun q=>n3 (by rw[←q];simp)
    rw[getD_set_ne (by omega),aN (by omega)]
   ·have hB:∀ x∈B,0≤x:=fun x hx=>bB x (by simp[hx])
    have n5:b∉B:=by
     rw[List.nodup_append,List.nodup_cons] at n1;exact n1.2.1.1
    exact oC (by rw[nk];exact fun m=>n3 (by simp[m])) hB (oC (by rw[nb];exact n5) hB b5)
 have hlast:JF ps no t k=lW (-1) (A ++ B):=by
  unfold JF
  rw[zO]
  cases B with
  |nil=>rw[show no.getD k.toNat 0=-1 from s2,if_pos rfl,b2];rfl
  |cons b B=>rw[s2.1,if_neg (by have:=s2.2.1;omega),c7'];rfl
 refine⟨by rw[lenP];exact c1,by rw[lenP];exact c2,by rw[lenP,aV];exact c3,n1,hseg,hback,hlast,fun i hi hm=>?_⟩
 rw[lenP] at hi
 have hmA:(i:Int)∉A:=fun m=>hm (by simp[m])
 have hmB:(i:Int)∉B:=fun m=>hm (by simp[m])
 by_cases e:(i:Int)=k
 ·have:k.toNat=i:=by omega
  unfold yI Ak
  rw[this]
  constructor
  ·split
   ·rw[aN (by omega)]
   ·rw[aN (by rw[List.length_set];omega)]
  ·split
   ·rw[aN (by omega)]
   ·rw[aN (by rw[List.length_set];omega)]
 ·obtain⟨g1,g2⟩:=c8 i hi (by simp only[List.mem_append,List.mem_cons,not_or];exact⟨hmA,e,hmB⟩)
  have ik:k.toNat≠i:=by omega
  unfold yI Ak
  constructor
  ·split
   ·rw[getD_set_ne ik];exact g1
   next c=>
    rw[getD_set_ne ik]
    cases B with
    |nil=>exact absurd s2 c
    |cons b B=>
     have:=s2.2.1
     have nb:(i:Int)≠b:=fun q=>hmB (by simp[q])
     rw[s2.1,getD_set_ne (by omega)];exact g1
  ·split
   ·rw[getD_set_ne ik];exact g2
   next c=>
    rw[getD_set_ne ik]
    rcases uI A with e' | ⟨A',a,e'⟩
    ·subst e';exact absurd b2 c
    ·subst e'
     rw[mZ] at b2
     have:=hr a (by simp)
     have na:(i:Int)≠a:=fun q=>hmA (by simp[q])
     rw[b2,getD_set_ne (by omega)];exact g2
theorem Dv {ps no:List Int} {h t p:Int} {L:List Int} (o:Or ps no h t L) (hp:p∈L):Or (yI ps no p) (Ak ps no p) (Ht ps no h p) (JF ps no t p) (wo L p):=by
 obtain⟨A,B,e⟩:=List.append_of_mem hp
 subst e
 rw[ae0 o.2.2.2.1]
 exact alJ o
theorem YH {ps no:List Int} {h t p:Int} {L:List Int} (o:Or ps no h t L) (hp:p∉L) (h0:0≤p) (h1:p<(ps.length:Int)):
  Or (if h=-1 then ps else ps.set h.toNat p) (no.set p.toNat h) p (if h=-1 then p else t) (p::L):=by
 obtain⟨c1,c2,c3,c4,c5,c6,c7,c8⟩:=o
 have np:((p.toNat:Nat):Int)=p:=by omega
 have hr:=gU c5
 obtain⟨q1,q2⟩:=c8 p.toNat (by omega) (by rw[np];exact hp)
 have hh:h=-1∧L=[]∨∃ B,L=h::B∧0≤h∧h<(no.length:Int)∧h≠p:=by
  rcases Bg c5 with⟨e,e2⟩ | ⟨B,e⟩
  ·exact .inl ⟨e2,e⟩
  ·have:=hr h (by rw[e];simp)
   exact .inr ⟨B,e,this.1,this.2,fun q=>hp (by rw[e,q];simp)⟩
 have lenP:(if h=-1 then ps else ps.set h.toNat p).length=ps.length:=by split<;>simp
 refine⟨by rw[lenP];exact c1,by rw[lenP];exact c2,by rw[lenP,List.length_set];exact c3,List.nodup_cons.2 ⟨hp,c4⟩,⟨rfl,⟨h0,by rw[List.length_set];omega⟩,?_⟩,⟨?_,?_⟩,?_,fun i hi hm=>?_⟩
 ·rw[aN (by omega)]
  exact nO (by rw[np];exact hp) c5
 ·rcases hh with⟨e,_⟩ | ⟨B,e,r0,r1,r2⟩
  ·rw[if_pos e];exact q1
  ·rw[if_neg (by omega),getD_set_ne (by omega)];exact q1
 ·rcases hh with⟨_,e⟩ | ⟨B,e,r0,r1,r2⟩
  ·subst e;trivial
  ·subst e
   rw[if_neg (by omega)]
   rw[List.nodup_cons] at c4
   refine⟨by rw[aN (by omega)],oC (by rw[show((h.toNat:Nat):Int)=h by omega];exact c4.1) (fun x hx=>(hr x (by simp[hx])).1) c6.2⟩
 ·rcases hh with⟨e,e2⟩ | ⟨B,e,r0,r1,r2⟩
  ·subst e2;rw[if_pos e];rfl
  ·subst e;rw[if_neg (by omega)];exact c7
 ·rw[lenP] at hi
  simp only[List.mem_cons,not_or] at hm
  obtain⟨g1,g2⟩:=c8 i hi hm.2
  rw[getD_set_ne (by omega)]
  refine⟨?_,g2⟩
  rcases hh with⟨e,_⟩ | ⟨B,e,r0,r1,r2⟩
  ·rw[if_pos e];exact g1
  ·have:(i:Int)≠h:=fun q=>hm.2 (by rw[e,q];simp)
   rw[if_neg (by omega),getD_set_ne (by omega)];exact g1
theorem Ju {ps no:List Int} {h t p:Int} {L:List Int} (o:Or ps no h t L) (h0:0≤p) (h1:p<(ps.length:Int)):
  Or (toP ps no h p) (toN ps no h p) p (Vl ps no h t p) (p::wo L p):=by
 have hm:=OG o h0 h1
 by_cases m:p∈L
 ·have c:=hm.2 m
  have r:=Dv o m
  have lenP:(yI ps no p).length=ps.length:=by unfold yI;split<;>simp
  have:=YH r (p:=p) (fun q=>(uQ.1 q).2 rfl) h0 (by omega)
  unfold toP toN Vl toH
  simp only[if_pos c]
  exact this
 ·have c:=fun q=>m (hm.1 q)
  rw[GK m]
  unfold toP toN Vl toH
  simp only[if_neg c]
  exact YH o m h0 h1
theorem aix {ps no:List Int} {h t:Int} {L:List Int} (o:Or ps no h t L) (hl:L≠[]):∃ A,L=A ++ [t]:=by
 rcases uI L with e | ⟨A,a,e⟩
 ·exact absurd e hl
 ·refine⟨A,?_⟩
  have:=o.2.2.2.2.2.2.1
  rw[e,mZ] at this
  rw[this];exact e
theorem ahA {kx px:List Int} {ux:List Bool} (h:lY kx px ux=0):kx.length=16∧gq 16 ux≤12∧∀ i,i<16→qG kx px ux i=false:=by
 unfold lY at h;split at h
 next c=>
  split at h
  next d=>exact⟨c.1,c.2,fun i hi=>(dZ 16 0).1 d i (by omega) (by omega)⟩
  next=>cases h
 next=>cases h
theorem Nu {ux:List Bool} {i:Nat}:∀ (D k d:Nat),k<16→d<D→(k+d)%16=i→(∀ t,t<d→(k+t)%16≠i)→wJ ux i D k=false→∀ t,t<d→ux.getD ((k+t)%16) false=true
 |0,k,d,_,h,_,_,_=>by omega
 |D+1,k,d,hk,hd,he,hm,hg=>fun t ht=>by
  have hki:k≠i:=fun e=>by have:=hm 0 (by omega);rw[Nat.add_zero,Nat.mod_eq_of_lt hk] at this;exact this e
  simp only[wJ,if_neg hki] at hg
  split at hg
  ·cases hg
  next hu=>
   rcases t with _ | t
   ·rw[Nat.add_zero,Nat.mod_eq_of_lt hk];simpa using hu
   ·have:=Nu D ((k+1)%16) (d - 1) (by omega) (by omega) (by omega) (fun t' ht'=>by have:=hm (t'+1) (by omega);rwa[show((k+1)%16+t')%16=(k+(t'+1))%16 by omega]) hg t (by omega)
    rwa[show((k+1)%16+t)%16=(k+(t+1))%16 by omega] at this
theorem Qm {kx px:List Int} {ux:List Bool} (ho:okI kx) (h:lY kx px ux=0):uw kx px ux=0:=by
 obtain⟨c1,c2,c3⟩:=ahA h
 have hfree:=jK (ux:=ux) (n:=16) (by omega)
 have hus:∀ i,i<16→ux.getD i false=true→0≤px.getD i 0∧px.getD i 0<16∧su kx ux (kx.getD i 0)=i∧wJ ux i 16 (cO (kx.getD i 0)).toNat=false:=fun i hi hu=>by
  have:=c3 i hi
  simp only[qG,hu,if_true,Bool.or_eq_false_iff,decide_eq_false_iff_not,not_or,ne_eq,Decidable.not_not] at this
  exact⟨by omega,by omega,this.1.2.2,this.2⟩
 unfold uw
 rw[if_pos ⟨c1,c2⟩,if_pos]
 rw[dZ]
 intro i _ hi
 have hi:i<16:=by omega
 unfold uV
 split
 next hu=>
  obtain⟨p0,p1,p2,p3⟩:=hus i hi hu
  have hk:=ho.2 i (by omega)
  have hh:=kC hk
  obtain⟨s,s1,s2,s3,s4⟩:=wV (xs:=kx) hk hfree
  have hgap:=Nu (ux:=ux) (i:=i) 16 (cO (kx.getD i 0)).toNat ((i+16 - (cO (kx.getD i 0)).toNat)%16) (by omega) (by omega) (by omega) (fun t ht=>by omega) p3
  have hle:s≤(i+16 - (cO (kx.getD i 0)).toNat)%16:=by
   rcases Nat.lt_or_ge ((i+16 - (cO (kx.getD i 0)).toNat)%16) s with c | c
   ·have:=(s3 _ c).2
    rw[show((cO (kx.getD i 0)).toNat+(i+16 - (cO (kx.getD i 0)).toNat)%16)%16=i by omega] at this
    exact absurd rfl this
   ·exact c
  have hlk:dn kx ux (kx.getD i 0)=i:=by
   rcases Nat.lt_or_eq_of_le hle with c | c
   ·have hu2:=hgap s c
    rw[←s2] at hu2
    have hl:=Aa (kx:=kx) ux hk
    have hkey:kx.getD (dn kx ux (kx.getD i 0)) 0=kx.getD i 0:=Decidable.not_not.1 fun n=>s4 ⟨hu2,n⟩
    have:=(hus _ hl hu2).2.2.1
    rw[hkey,p2] at this;omega
   ·rw[s2,c];omega
  rw[hlk]
  simp only[decide_eq_false_iff_not,not_or,ne_eq,Decidable.not_not]
  exact⟨by omega,by omega,trivial⟩
 next hu=>
  have:=c3 i hi
  simp only[qG,if_neg hu] at this
  exact this
theorem acd {T:Tb} (h:xB T=0):T.sz∧ku T.nx T.us T.fr=0∧lY T.kx T.px T.ux=0∧lJ T.ps T.no T.h T.t=0∧gq T.kx.length T.ux=(bM T.no T.h).length∧
  ∀ i:Nat,(i:Int)<T.n→qJ T (bM T.no T.h) i=false:=by
 unfold xB at h;split at h
 next c=>
  split at h
  next d=>exact⟨c.1,c.2.1,c.2.2.1,c.2.2.2.1,c.2.2.2.2,fun i hi=>(dZ _ 0).1 d i (by omega) (by have:=c.1.1;omega)⟩
  next=>cases h
 next=>cases h
theorem Y4 {q:Nat→Bool}:∀ {n:Nat},0<cnt q n→∃ j,j<n∧q j=true
 |0,h=>by simp[cnt] at h
 |n+1,h=>by
  cases e:q n with
  |true=>exact⟨n,by omega,e⟩
  |false=>
   simp only[cnt,e,cond_false,Nat.add_zero] at h
   obtain⟨j,a,b⟩:=Y4 h
   exact⟨j,by omega,b⟩
theorem agS {T:Tb} (ho:fZ T) (h:xB T=0) {i:Nat} (hi:(i:Int)<T.n) (hu:T.us.getD i false=true):
  tK T.kx T.px T.ux (T.ks.getD i 0)=0∧pV T.kx T.px T.ux (T.ks.getD i 0)=i:=by
 obtain⟨⟨s1,s2,s3,s4,s5,s6⟩,a1,a2,a3,a4,a5⟩:=acd h
 have hp:=Qm ho.1 a2
 obtain⟨b1,b2,b3⟩:=zH hp
 have hb:=a5 i hi
 simp only[qJ,Bool.or_eq_false_iff,hu,Bool.not_eq_false'] at hb
 obtain⟨_,c1,c2,_⟩:=hb
 have c1:KZ T.kx.length T.px T.ux i=1:=by
  have:decide (KZ T.kx.length T.px T.ux i=1)=true:=by
   cases e:decide (KZ T.kx.length T.px T.ux i=1) with
   |true=>rfl
   |false=>rw[e] at c1;cases c1
  exact of_decide_eq_true this
 obtain⟨j,hj,hq⟩:=Y4 (q:=QV T.px T.ux i) (n:=T.kx.length) (by unfold KZ at c1;omega)
 simp only[QV,Bool.and_eq_true,beq_iff_eq] at hq
 have hks:T.kx.getD j 0=T.ks.getD i 0:=by
  have:=Ho.1 c2 j hj
  have hq':QV T.px T.ux i j=true:=by simp only[QV,Bool.and_eq_true,beq_iff_eq];exact hq
  rw[hq'] at this
  simpa using this
 have hpc:=b3 j (by omega)
 simp only[uV,hq.1,if_true,decide_eq_false_iff_not,not_or,ne_eq,Decidable.not_not] at hpc
 rw[←hks]
 unfold tK pV
 rw[if_pos hp,if_pos hp,hpc.2.2,if_pos hq.1,if_pos hq.1]
 exact⟨rfl,hq.2⟩
theorem xk {l:List Int} (h:l.Nodup) (h0:∀ x∈l,0≤x):(l.map Int.toNat).Nodup:=yw h fun x hx y hy e=>by
 have:=h0 x hx;have:=h0 y hy;omega
theorem afL {T:Tb} (ho:fZ T) (h:xB T=0):jL T=0:=by
 obtain⟨hs,a1,a2,a3,a4,a5⟩:=acd h
 have hs':=hs
 obtain⟨s1,s2,s3,s4,s5,s6⟩:=hs'
 have hak:=V8 a1
 have hpc:=Qm ho.1 a2
 have hlc:=Xc a3
 have hun:=xR hak
 obtain⟨_,_,c3,c4,_⟩:=YS a3
 have hl:=xU c4
 have hll:vH T.ps T.no T.h T.t=bM T.no T.h:=by unfold vH;rw[if_pos hlc]
 unfold jL
 rw[if_pos ⟨hs,hak,hpc,hlc⟩,hll,if_pos]
 refine⟨?_,?_⟩
 ·rw[dZ]
  intro i _ hi
  have hi':(i:Int)<T.n:=by omega
  have hb:=a5 i hi'
  simp only[qJ,Bool.or_eq_false_iff] at hb
  obtain⟨d1,d2,d3,d4⟩:=hb
  simp only[qO,d1,Bool.false_or]
  split
  next hu=>
   rw[if_pos hu,decide_eq_false_iff_not] at d4
   obtain⟨e1,e2⟩:=agS ho h hi' hu
   rw[decide_eq_false_iff_not,e1,e2]
   rintro(q | q | q)
   ·exact q rfl
   ·exact q rfl
   ·exact d4 q
  next hu=>rw[if_neg hu] at d4;exact d4
 ·rw[a4,oU]
  have hin:∀ i,i<T.us.length→T.us.getD i false=inB (bM T.no T.h) i:=fun i hi=>by
   have hb:=a5 i (by omega)
   simp only[qJ,Bool.or_eq_false_iff,Bool.not_eq_false',beq_iff_eq] at hb
   exact hb.1
  apply Nat.le_antisymm
  ·have:=mY (L:=(List.range T.us.length).filter fun i=>T.us.getD i false) (M:=(bM T.no T.h).map Int.toNat) (List.nodup_range.sublist List.filter_sublist) (fun x hx=>by
    rw[List.mem_filter,List.mem_range] at hx
    have hq:=hx.2
    rw[hin x hx.1] at hq
    exact List.mem_map.2 ⟨(x:Int),of_decide_eq_true hq,by omega⟩)
   rwa[List.length_map] at this
  ·have:=mY (L:=(bM T.no T.h).map Int.toNat) (M:=(List.range T.us.length).filter fun i=>T.us.getD i false) (xk hl.1 fun x hx=>(hl.2 x hx).1) (fun x hx=>by
    obtain⟨y,hy,rfl⟩:=List.mem_map.1 hx
    have hb:=hl.2 y hy
    have hlt:y.toNat<T.us.length:=by omega
    rw[List.mem_filter,List.mem_range]
    refine⟨hlt,?_⟩
    rw[hin _ hlt,show((y.toNat:Nat):Int)=y by omega]
    exact decide_eq_true hy)
   rwa[List.length_map] at this
def ds (a b:Nat):Nat:=(b+16 - a)%16
def hmN (k:Int):Nat:=(cO k).toNat
theorem wC {k:Int} (h:eX k):hmN k<16:=by
 have:=kC h;unfold hmN;omega
def Ce (kx px:List Int) (ux:List Bool) (m q:Int):Prop:=∃ i,i<16∧ux.getD i false=true∧kx.getD i 0=m∧px.getD i 0=q
def Pa (kx:List Int) (ux:List Bool) (i:Nat):Prop:=∀ t,t<ds (hmN (kx.getD i 0)) i→ux.getD ((hmN (kx.getD i 0)+t)%16) false=true
def Ix (kx px:List Int) (ux:List Bool):Prop:=
 (kx.length=16∧px.length=16∧ux.length=16)∧gq 16 ux≤12∧(∀ i,i<16→eX (kx.getD i 0))∧
 (∀ i,i<16→ux.getD i false=false→kx.getD i 0=0∧px.getD i 0=0)∧
 (∀ i,i<16→ux.getD i false=true→0≤px.getD i 0∧px.getD i 0<16)∧
 (∀ i j,i<16→j<16→ux.getD i false=true→ux.getD j false=true→kx.getD i 0=kx.getD j 0→i=j)∧
 (∀ i,i<16→ux.getD i false=true→Pa kx ux i)
theorem YQ {kx px:List Int} {ux:List Bool} (x:Ix kx px ux):∃ j,j<16∧ux.getD j false=false:=jK (by have:=x.2.1;omega)
theorem Xj {kx px:List Int} {ux:List Bool} (x:Ix kx px ux):okI kx:=⟨by have:=x.1.1;omega,fun i hi=>x.2.2.1 i (by have:=x.1.1;omega)⟩
theorem yR {kx px:List Int} {ux:List Bool} (x:Ix kx px ux) {k:Int} (hk:eX k):
  dn kx ux k<16∧(∀ t,t<ds (hmN k) (dn kx ux k)→ux.getD ((hmN k+t)%16) false=true)∧
  ((ux.getD (dn kx ux k) false=true∧kx.getD (dn kx ux k) 0=k)∨(ux.getD (dn kx ux k) false=false∧∀ i,i<16→ux.getD i false=true→kx.getD i 0≠k)):=by
 obtain⟨s,h1,h2,h3,h4⟩:=wV (xs:=kx) hk (YQ x)
 have hh:=wC hk
 have hs:ds (hmN k) (dn kx ux k)=s:=by
  unfold ds;rw[h2];unfold hmN at hh ⊢;omega
 refine⟨by rw[h2];omega,fun t ht=>(h3 t (by omega)).1,?_⟩
 by_cases u:ux.getD (dn kx ux k) false=true
 ·exact .inl ⟨u,Classical.byContradiction fun n=>h4 ⟨u,n⟩⟩
 ·rw[Bool.not_eq_true] at u
  refine .inr ⟨u,fun i hi ui e=>?_⟩
  have p:=x.2.2.2.2.2.2 i hi ui
  unfold Pa at p;rw[e] at p
  by_cases c:s<ds (hmN k) i
  ·have:=p s c
   unfold hmN at this;rw[←h2,u] at this;cases this
  ·by_cases c2:ds (hmN k) i=s
   ·have:dn kx ux k=i:=by
     rw[h2];unfold ds at c2;unfold hmN at c2 hh;omega
    rw[this,ui] at u;cases u
   ·have:=(h3 (ds (hmN k) i) (by omega)).2
    rw[show((cO k).toNat+ds (hmN k) i)%16=i by unfold ds hmN;unfold hmN at hh;omega] at this
    exact this e
theorem Zp {kx px:List Int} {ux:List Bool} (x:Ix kx px ux) {i:Nat} (hi:i<16) (hu:ux.getD i false=true):dn kx ux (kx.getD i 0)=i:=by
 obtain⟨h1,_,⟨h2,h3⟩ | ⟨_,h3⟩⟩:=yR x (x.2.2.1 i hi)
 ·exact x.2.2.2.2.2.1 _ _ h1 hi h2 hu h3
 ·exact absurd rfl (h3 i hi hu)
theorem QL {kx px:List Int} {ux:List Bool} (ho:okI kx) (hc:FM kx px ux) (h:uw kx px ux=0):Ix kx px ux:=by
 obtain⟨c1,c2,c3⟩:=zH h
 have hfree:=jK (ux:=ux) (n:=16) (by omega)
 have hin:∀ i,i<16→eX (kx.getD i 0):=fun i hi=>ho.2 i (by omega)
 have hat:∀ i,i<16→ux.getD i false=true→dn kx ux (kx.getD i 0)=i:=fun i hi u=>by
  have:=c3 i hi
  unfold uV at this;rw[if_pos u,decide_eq_false_iff_not] at this
  exact Classical.byContradiction fun n=>this (.inr (.inr n))
 refine⟨⟨c1,by have:=hc.2.1;omega,by have:=hc.2.2;omega⟩,c2,hin,fun i hi u=>?_,fun i hi u=>?_,fun i j hi hj ui uj e=>?_,fun i hi u=>?_⟩
 ·have:=c3 i hi
  unfold uV at this;rw[if_neg (by rw[u];simp),decide_eq_false_iff_not] at this
  exact⟨Classical.byContradiction fun n=>this (.inl n),Classical.byContradiction fun n=>this (.inr n)⟩
 ·have:=c3 i hi
  unfold uV at this;rw[if_pos u,decide_eq_false_iff_not] at this
  omega
 ·rw[←hat i hi ui,e,hat j hj uj]
 ·obtain⟨s,h1,h2,h3,_⟩:=wV (xs:=kx) (hin i hi) hfree
  rw[hat i hi u] at h2
  have hh:=wC (hin i hi)
  intro t ht
  refine(h3 t ?_).1
  unfold ds at ht;unfold hmN at ht hh;omega
theorem YE {ux:List Bool} {i:Nat}:∀ (D k d:Nat),k<16→d<16→(k+d)%16=i→(∀ t,t<d→ux.getD ((k+t)%16) false=true)→wJ ux i D k=false
 |0,_,_,_,_,_,_=>rfl
 |D+1,k,d,hk,hd,he,h=>by
  simp only[wJ]
  split
  ·rfl
  next c=>
   have d0:d≠0:=fun q=>c (by subst q;rw[←he];omega)
   have:=h 0 (by omega)
   rw[Nat.add_zero,Nat.mod_eq_of_lt hk] at this
   rw[if_neg (by rw[this];simp)]
   exact YE D ((k+1)%16) (d - 1) (by omega) (by omega) (by omega) fun t ht=>by
    have:=h (t+1) (by omega)
    rwa[show((k+1)%16+t)%16=(k+(t+1))%16 by omega]
theorem VL {kx px:List Int} {ux:List Bool} (x:Ix kx px ux):lY kx px ux=0:=by
 obtain⟨⟨c1,c2,c3⟩,c4,c5,c6,c7,c8,c9⟩:=x
 unfold lY
 rw[if_pos ⟨c1,c4⟩,if_pos]
 rw[dZ]
 intro i _ hi
 have hi:i<16:=by omega
 unfold qG
 by_cases u:ux.getD i false=true
 ·rw[if_pos u]
  have hh:=wC (c5 i hi)
  have g:wJ ux i 16 (cO (kx.getD i 0)).toNat=false:=YE 16 _ (ds (hmN (kx.getD i 0)) i) hh (by unfold ds;omega) (by unfold ds;unfold hmN at hh ⊢;omega) (c9 i hi u)
  have a:su kx ux (kx.getD i 0)=i:=by
   unfold su
   rw[c1]
   refine uO 16 0 i (by omega) (by omega) (by show(ux.getD i false && kx.getD i 0 ==kx.getD i 0)=true;rw[u];simp) fun j _ hj=>?_
   cases uj:ux.getD j false with
   |false=>rfl
   |true=>
    rw[Bool.true_and]
    have:¬ kx.getD j 0=kx.getD i 0:=fun e=>by have:=c8 j i (by omega) hi uj u e;omega
    simpa using this
  rw[g,a,Bool.or_false,decide_eq_false_iff_not]
  have:=c7 i hi u
  omega
 ·rw[if_neg u]
  obtain⟨a,b⟩:=c6 i hi (by simpa using u)
  rw[a,b];rfl
theorem Ij {kx px:List Int} {ux:List Bool} (x:Ix kx px ux):uw kx px ux=0:=Qm (Xj x) (VL x)
theorem ajO {kx px:List Int} {ux:List Bool} (x:Ix kx px ux):FM kx px ux:=by
 obtain⟨⟨a,b,c⟩,_⟩:=x
 exact⟨by omega,by omega,by omega⟩
theorem aml {kx px:List Int} {ux:List Bool} (ho:okI kx) (hc:FM kx px ux):uw kx px ux=0↔lY kx px ux=0:=⟨fun h=>VL (QL ho hc h),Qm ho⟩
theorem adW {kx px:List Int} {ux:List Bool} (x:Ix kx px ux) {k q:Int} (hk:eX k) (h:Ce kx px ux k q):tK kx px ux k=0∧pV kx px ux k=q:=by
 obtain⟨i,hi,hu,e1,e2⟩:=h
 have:=Zp x hi hu
 rw[e1] at this
 unfold tK pV
 rw[if_pos (Ij x),if_pos (Ij x),this,if_pos hu,if_pos hu]
 exact⟨rfl,e2⟩
theorem ahw {kx px:List Int} {ux:List Bool} (x:Ix kx px ux) {k:Int} (hk:eX k) (h:∀ q,¬ Ce kx px ux k q):tK kx px ux k=6∧pV kx px ux k=0∧ux.getD (dn kx ux k) false=false:=by
 obtain⟨h1,_,⟨h2,h3⟩ | ⟨h2,h3⟩⟩:=yR x hk
 ·exact absurd ⟨_,h1,h2,h3,rfl⟩ (h (px.getD (dn kx ux k) 0))
 ·unfold tK pV
  rw[if_pos (Ij x),if_pos (Ij x),h2]
  exact⟨rfl,rfl,rfl⟩
theorem alp {kx px:List Int} {ux:List Bool} (x:Ix kx px ux) {k p q:Int} (h:Ce kx px ux k p) (g:Ce kx px ux k q):p=q:=by
 obtain⟨i,hi,ui,e1,e2⟩:=h
 obtain⟨j,hj,uj,f1,f2⟩:=g
 have:=x.2.2.2.2.2.1 i j hi hj ui uj (by rw[e1,f1])
 subst this;rw[←e2,←f2]
theorem Y5:∀ {n:Nat} {us:List Bool} {i:Nat},us.length=n→i<n→us.getD i false=false→gq n (us.set i true)=gq n us+1:=by
 intro n us i hl hi hu
 unfold gq
 have key:∀ m,m≤n→cnt (fun j=>(us.set i true).getD j false) m=cnt (fun j=>us.getD j false) m+if i<m then 1 else 0:=by
  intro m
  induction m with
  |zero=>intro _;simp[cnt]
  |succ m ih=>
   intro hm
   simp only[cnt]
   rw[ih (by omega)]
   by_cases e:i=m
   ·subst e
    rw[fE (by omega),hu,if_neg (by omega),if_pos (by omega)];rfl
   ·rw[fQ e]
    by_cases c:i<m
    ·rw[if_pos c,if_pos (by omega)];omega
    ·rw[if_neg c,if_neg (by omega),Nat.add_zero,Nat.add_zero]
 rw[key n (Nat.le_refl _),if_pos hi]
theorem ak6 {kx px:List Int} {ux:List Bool} (x:Ix kx px ux) {k p:Int} (hk:eX k) (hp:0≤p∧p<16) (hn:∀ q,¬ Ce kx px ux k q) (hc:gq 16 ux<12):
  Ix (kx.set (dn kx ux k) k) (px.set (dn kx ux k) p) (ux.set (dn kx ux k) true)∧gq 16 (ux.set (dn kx ux k) true)=gq 16 ux+1∧
  ∀ m q,Ce (kx.set (dn kx ux k) k) (px.set (dn kx ux k) p) (ux.set (dn kx ux k) true) m q↔Ce kx px ux m q∨m=k∧q=p:=by
 obtain⟨h1,h2,⟨h3,h4⟩ | ⟨h3,h4⟩⟩:=yR x hk
 ·exact absurd ⟨_,h1,h3,h4,rfl⟩ (hn (px.getD (dn kx ux k) 0))
 generalize dn kx ux k=l at *
 obtain⟨⟨c1,c2,c3⟩,c4,c5,c6,c7,c8,c9⟩:=x
 have k1:(kx.set l k).getD l 0=k:=aN (by omega)
 have k2:(px.set l p).getD l 0=p:=aN (by omega)
 have k3:(ux.set l true).getD l false=true:=fE (by omega)
 have k4:∀ i,l≠i→(kx.set l k).getD i 0=kx.getD i 0:=fun i e=>getD_set_ne e
 have k5:∀ i,l≠i→(px.set l p).getD i 0=px.getD i 0:=fun i e=>getD_set_ne e
 have k6:∀ i,l≠i→(ux.set l true).getD i false=ux.getD i false:=fun i e=>fQ e
 have k7:∀ i,ux.getD i false=true→(ux.set l true).getD i false=true:=fun i u=>by
  by_cases e:l=i
  ·subst e;exact k3
  ·rw[k6 i e];exact u
 have hc':gq 16 (ux.set l true)=gq 16 ux+1:=Y5 c3 h1 h3
 refine⟨⟨⟨by rw[List.length_set];exact c1,by rw[List.length_set];exact c2,by rw[List.length_set];exact c3⟩,by omega,fun i hi=>?_,fun i hi u=>?_,fun i hi u=>?_,fun i j hi hj ui uj e=>?_,fun i hi u=>?_⟩,hc',fun m q=>⟨?_,?_⟩⟩
 ·by_cases e:l=i
  ·subst e;rw[k1];exact hk
  ·rw[k4 i e];exact c5 i hi
 ·by_cases e:l=i
  ·subst e;rw[k3] at u;cases u
  ·rw[k4 i e,k5 i e];exact c6 i hi (by rwa[k6 i e] at u)
 ·by_cases e:l=i
  ·subst e;rw[k2];exact hp
  ·rw[k5 i e];exact c7 i hi (by rwa[k6 i e] at u)
 ·by_cases ei:l=i
  ·subst ei
   by_cases ej:l=j
   ·exact ej
   ·rw[k1,k4 j ej] at e
    rw[k6 j ej] at uj
    exact absurd e.symm (h4 j hj uj)
  ·rw[k4 i ei] at e
   rw[k6 i ei] at ui
   by_cases ej:l=j
   ·subst ej
    rw[k1] at e
    exact absurd e (h4 i hi ui)
   ·rw[k4 j ej] at e
    rw[k6 j ej] at uj
    exact c8 i j hi hj ui uj e
 ·unfold Pa
  by_cases e:l=i
  ·subst e;rw[k1]
   exact fun t ht=>k7 _ (h2 t ht)
  ·rw[k4 i e]
   exact fun t ht=>k7 _ (c9 i hi (by rwa[k6 i e] at u) t ht)
 ·rintro⟨i,hi,u,e1,e2⟩
  by_cases e:l=i
  ·subst e;rw[k1] at e1;rw[k2] at e2;exact .inr ⟨e1.symm,e2.symm⟩
  ·rw[k4 i e] at e1;rw[k5 i e] at e2;rw[k6 i e] at u
   exact .inl ⟨i,hi,u,e1,e2⟩
 ·rintro(⟨i,hi,u,e1,e2⟩ | ⟨e1,e2⟩)
  ·have e:l≠i:=fun q=>by subst q;rw[h3] at u;cases u
   exact⟨i,hi,by rw[k6 i e];exact u,by rw[k4 i e];exact e1,by rw[k5 i e];exact e2⟩
  ·exact⟨l,h1,k3,by rw[k1];exact e1.symm,by rw[k2];exact e2.symm⟩
theorem agK:∀ h:Nat,h<16→∀ i:Nat,i<16→∀ j:Nat,j<16→ah .geq (ai .and .i64 (ai .sub .i64 (ai .sub .i64 (h:Int) i) 1) 15) (ai .and .i64 (ai .sub .i64 (j:Int) i) 15)=decide (ds i j≤(h+15 - i)%16):=by decide +kernel
theorem afx {kx:List Int} {i j:Nat} (hi:i<16) (hj:j<16) (hk:eX (kx.getD j 0)):dpC kx i j=decide (ds i j≤(hmN (kx.getD j 0)+15 - i)%16):=by
 have hb:=kC hk
 have:=agK (hmN (kx.getD j 0)) (wC hk) i hi j hj
 unfold dpC
 rw[show cO (kx.getD j 0)=((hmN (kx.getD j 0):Nat):Int) by unfold hmN;omega]
 exact this
structure Mv (C:Int→Int→Prop) (R:Dp) (d:Nat):Prop where
 bi:R.i<16
 bj:R.j<16
 lk:R.kx.length=16
 lp:R.px.length=16
 lu:R.ux.length=16
 hu:R.ux.getD R.i false=true
 hf:R.ux.getD ((R.j+d)%16) false=false
 hd:1≤ds R.i R.j∧ds R.i R.j+d≤15
 kin:∀ m,m<16→eX (R.kx.getD m 0)
 zer:∀ m,m<16→R.ux.getD m false=false→R.kx.getD m 0=0∧R.px.getD m 0=0
 pin:∀ m,m<16→R.ux.getD m false=true→0≤R.px.getD m 0∧R.px.getD m 0<16
 one:∀ a b,a<16→b<16→a≠R.i→b≠R.i→R.ux.getD a false=true→R.ux.getD b false=true→R.kx.getD a 0=R.kx.getD b 0→a=b
 pa:∀ m,m<16→m≠R.i→R.ux.getD m false=true→Pa R.kx R.ux m∧(ds (hmN (R.kx.getD m 0)) R.i<ds (hmN (R.kx.getD m 0)) m→ds R.i R.j≤ds R.i m)
 ce:∀ m q,(∃ a,a<16∧a≠R.i∧R.ux.getD a false=true∧R.kx.getD a 0=m∧R.px.getD a 0=q)↔C m q
theorem WJ {C:Int→Int→Prop}:∀ (D d:Nat) (R:Dp),d<D→Mv C R d→∃ d',Mv C (pU D R) d'∧(pU D R).ux.getD (pU D R).j false=false∧gq 16 (pU D R).ux=gq 16 R.ux
 |0,d,R,h,_=>by omega
 |D+1,d,R,hd,V=>by
  obtain⟨bi,bj,lk,lp,lu,hu,hf,hds,kin,zer,pin,one,pa,ce⟩:=V
  by_cases c:R.ux.getD R.j false=true
  ·have hd0:d≠0:=fun e=>by
    subst e
    rw[Nat.add_zero,Nat.mod_eq_of_lt bj,c] at hf;cases hf
   have hij:R.i≠R.j:=fun e=>by
    have:=hds.1;unfold ds at this;omega
   have hq:=afx (kx:=R.kx) bi bj (kin R.j bj)
   have hh:=wC (kin R.j bj)
   have huu:R.ux.set R.i (R.ux.getD R.j false)=R.ux:=by
    rw[c]
    apply List.ext_getElem (by simp)
    intro n h1 h2
    by_cases e:R.i=n
    ·subst e
     rw[List.getElem_set_self]
     rw[List.getD_eq_getElem?_getD,List.getElem?_eq_getElem h2] at hu
     exact hu.symm
    ·rw[List.getElem_set_ne e]
   by_cases c2:dpC R.kx R.i R.j=true
   ·have e:pU (D+1) R=pU D ⟨R.j,(R.j+1)%16,R.kx.set R.i (R.kx.getD R.j 0),R.px.set R.i (R.px.getD R.j 0),R.ux⟩:=by simp only[pU,if_pos c,if_pos c2,huu]
    rw[hq,decide_eq_true_eq] at c2
    rw[e]
    have k1:(R.kx.set R.i (R.kx.getD R.j 0)).getD R.i 0=R.kx.getD R.j 0:=aN (by omega)
    have k2:(R.px.set R.i (R.px.getD R.j 0)).getD R.i 0=R.px.getD R.j 0:=aN (by omega)
    have k4:∀ m,R.i≠m→(R.kx.set R.i (R.kx.getD R.j 0)).getD m 0=R.kx.getD m 0:=fun m e=>getD_set_ne e
    have k5:∀ m,R.i≠m→(R.px.set R.i (R.px.getD R.j 0)).getD m 0=R.px.getD m 0:=fun m e=>getD_set_ne e
    refine WJ D (d - 1) _ (by omega) ⟨bj,by show(R.j+1)%16<16;omega,by show(List.set _ _ _).length=16;rw[List.length_set];exact lk,by show(List.set _ _ _).length=16;rw[List.length_set];exact lp,lu,c,?_,?_,?_,?_,?_,?_,?_,?_⟩
    ·show R.ux.getD (((R.j+1)%16+(d - 1))%16) false=false
     rw[show((R.j+1)%16+(d - 1))%16=(R.j+d)%16 by omega];exact hf
    ·show 1≤ds R.j ((R.j+1)%16)∧ds R.j ((R.j+1)%16)+(d - 1)≤15
     unfold ds at hds ⊢;omega
    ·intro m hm
     show eX ((R.kx.set R.i (R.kx.getD R.j 0)).getD m 0)
     by_cases e:R.i=m
     ·subst e;rw[k1];exact kin _ bj
     ·rw[k4 m e];exact kin m hm
    ·intro m hm u
     show(R.kx.set R.i (R.kx.getD R.j 0)).getD m 0=0∧(R.px.set R.i (R.px.getD R.j 0)).getD m 0=0
     have e:R.i≠m:=fun q=>by subst q;rw[hu] at u;cases u
     rw[k4 m e,k5 m e];exact zer m hm u
    ·intro m hm u
     show 0≤(R.px.set R.i (R.px.getD R.j 0)).getD m 0∧(R.px.set R.i (R.px.getD R.j 0)).getD m 0<16
     by_cases e:R.i=m
     ·subst e;rw[k2];exact pin _ bj c
     ·rw[k5 m e];exact pin m hm u
    ·intro a b ha hb na nb ua ub e
     change a≠R.j at na;change b≠R.j at nb
     change (R.kx.set R.i (R.kx.getD R.j 0)).getD a 0=(R.kx.set R.i (R.kx.getD R.j 0)).getD b 0 at e
     by_cases ea:R.i=a
     ·subst ea
      by_cases eb:R.i=b
      ·exact eb
      ·rw[k1,k4 b eb] at e
       exact absurd (one R.j b bj hb (Ne.symm hij) (Ne.symm eb) c ub e).symm nb
     ·by_cases eb:R.i=b
      ·subst eb
       rw[k4 a ea,k1] at e
       exact absurd (one a R.j ha bj (Ne.symm ea) (Ne.symm hij) ua c e) na
      ·rw[k4 a ea,k4 b eb] at e
       exact one a b ha hb (Ne.symm ea) (Ne.symm eb) ua ub e
    ·intro m hm nm um
     change m≠R.j at nm
     show Pa (R.kx.set R.i (R.kx.getD R.j 0)) R.ux m∧(ds (hmN ((R.kx.set R.i (R.kx.getD R.j 0)).getD m 0)) R.j<ds (hmN ((R.kx.set R.i (R.kx.getD R.j 0)).getD m 0)) m→ds R.j ((R.j+1)%16)≤ds R.j m)
     have h1:ds R.j ((R.j+1)%16)≤ds R.j m:=by unfold ds;omega
     refine⟨?_,fun _=>h1⟩
     by_cases e:R.i=m
     ·subst e
      unfold Pa;rw[k1]
      intro t ht
      refine(pa R.j bj (Ne.symm hij) c).1 t ?_
      unfold ds at ht c2 ⊢;omega
     ·unfold Pa;rw[k4 m e]
      exact(pa m hm (Ne.symm e) um).1
    ·intro m q
     rw[←ce]
     constructor
     ·rintro⟨a,ha,na,ua,e1,e2⟩
      change a≠R.j at na
      change (R.kx.set R.i (R.kx.getD R.j 0)).getD a 0=m at e1
      change (R.px.set R.i (R.px.getD R.j 0)).getD a 0=q at e2
      by_cases ea:R.i=a
      ·subst ea
       rw[k1] at e1;rw[k2] at e2
       exact⟨R.j,bj,Ne.symm hij,c,e1,e2⟩
      ·rw[k4 a ea] at e1;rw[k5 a ea] at e2
       exact⟨a,ha,Ne.symm ea,ua,e1,e2⟩
     ·rintro⟨a,ha,na,ua,e1,e2⟩
      by_cases ea:a=R.j
      ·subst ea
       exact⟨R.i,bi,hij,hu,by show(R.kx.set R.i _).getD R.i 0=m;rw[k1];exact e1,by show(R.px.set R.i _).getD R.i 0=q;rw[k2];exact e2⟩
      ·exact⟨a,ha,ea,ua,by show(R.kx.set R.i _).getD a 0=m;rw[k4 a (Ne.symm na)];exact e1,by show(R.px.set R.i _).getD a 0=q;rw[k5 a (Ne.symm na)];exact e2⟩
   ·have e:pU (D+1) R=pU D { R with j:=(R.j+1)%16 }:=by simp only[pU,if_pos c,if_neg c2]
    rw[hq,decide_eq_true_eq] at c2
    rw[e]
    refine WJ D (d - 1) _ (by omega) ⟨bi,by show(R.j+1)%16<16;omega,lk,lp,lu,hu,?_,?_,kin,zer,pin,one,?_,ce⟩
    ·show R.ux.getD (((R.j+1)%16+(d - 1))%16) false=false
     rw[show((R.j+1)%16+(d - 1))%16=(R.j+d)%16 by omega];exact hf
    ·show 1≤ds R.i ((R.j+1)%16)∧ds R.i ((R.j+1)%16)+(d - 1)≤15
     unfold ds at hds ⊢;omega
    ·intro m hm nm um
     show Pa R.kx R.ux m∧(ds (hmN (R.kx.getD m 0)) R.i<ds (hmN (R.kx.getD m 0)) m→ds R.i ((R.j+1)%16)≤ds R.i m)
     refine⟨(pa m hm nm um).1,fun g=>?_⟩
     have g2:=(pa m hm nm um).2 g
     by_cases e:m=R.j
     ·subst e
      unfold ds at g c2;omega
     ·unfold ds at g2 hds ⊢;omega
  ·have e:pU (D+1) R=R:=by simp only[pU,if_neg c]
   rw[e]
   exact⟨d,⟨bi,bj,lk,lp,lu,hu,hf,hds,kin,zer,pin,one,pa,ce⟩,by simpa using c,rfl⟩
theorem ahm {kx px:List Int} {ux:List Bool} (x:Ix kx px ux) {k p:Int} (hk:eX k) (h:Ce kx px ux k p):
  Ix ((kP kx px ux k).kx.set (kP kx px ux k).i 0) ((kP kx px ux k).px.set (kP kx px ux k).i 0) ((kP kx px ux k).ux.set (kP kx px ux k).i false)∧
  gq 16 ((kP kx px ux k).ux.set (kP kx px ux k).i false)+1=gq 16 ux∧
  ∀ m q,Ce ((kP kx px ux k).kx.set (kP kx px ux k).i 0) ((kP kx px ux k).px.set (kP kx px ux k).i 0) ((kP kx px ux k).ux.set (kP kx px ux k).i false) m q↔Ce kx px ux m q∧m≠k:=by
 obtain⟨l,hl,ul,el,_⟩:=h
 have hlk:dn kx ux k=l:=by have:=Zp x hl ul;rwa[el] at this
 obtain⟨f,hf,uf⟩:=YQ x
 have hne:l≠f:=fun e=>by subst e;rw[ul] at uf;cases uf
 obtain⟨⟨c1,c2,c3⟩,c4,c5,c6,c7,c8,c9⟩:=x
 have V:Mv (fun m q=>Ce kx px ux m q∧m≠k) ⟨l,(l+1)%16,kx,px,ux⟩ ((f+16 - (l+1)%16)%16):=by
  refine⟨hl,by show(l+1)%16<16;omega,c1,c2,c3,ul,?_,?_,c5,c6,c7,fun a b ha hb _ _ ua ub e=>c8 a b ha hb ua ub e,fun m hm nm um=>⟨c9 m hm um,fun _=>?_⟩,fun m q=>⟨?_,?_⟩⟩
  ·show ux.getD (((l+1)%16+(f+16 - (l+1)%16)%16)%16) false=false
   rw[show((l+1)%16+(f+16 - (l+1)%16)%16)%16=f by omega];exact uf
  ·show 1≤ds l ((l+1)%16)∧ds l ((l+1)%16)+(f+16 - (l+1)%16)%16≤15
   unfold ds;omega
  ·show ds l ((l+1)%16)≤ds l m
   change m≠l at nm
   unfold ds;omega
  ·rintro⟨a,ha,na,ua,e1,e2⟩
   refine⟨⟨a,ha,ua,e1,e2⟩,fun q=>na (c8 a l ha hl ua ul ?_)⟩
   rw[el,←q];exact e1
  ·rintro⟨⟨a,ha,ua,e1,e2⟩,n⟩
   exact⟨a,ha,fun q=>n (by change a=l at q;subst q;rw[←e1];exact el),ua,e1,e2⟩
 obtain⟨d',W,wf,wc⟩:=WJ 16 _ _ (by omega) V
 have e:kP kx px ux k=pU 16 ⟨l,(l+1)%16,kx,px,ux⟩:=by unfold kP;rw[hlk]
 rw[e]
 generalize pU 16 ⟨l,(l+1)%16,kx,px,ux⟩=R at *
 obtain⟨bi,bj,lk,lp,lu,hu,_,hds,kin,zer,pin,one,pa,ce⟩:=W
 have k1:(R.kx.set R.i 0).getD R.i 0=0:=aN (by omega)
 have k2:(R.px.set R.i 0).getD R.i 0=0:=aN (by omega)
 have k3:(R.ux.set R.i false).getD R.i false=false:=fE (by omega)
 have k4:∀ m,R.i≠m→(R.kx.set R.i 0).getD m 0=R.kx.getD m 0:=fun m e=>getD_set_ne e
 have k5:∀ m,R.i≠m→(R.px.set R.i 0).getD m 0=R.px.getD m 0:=fun m e=>getD_set_ne e
 have k6:∀ m,R.i≠m→(R.ux.set R.i false).getD m false=R.ux.getD m false:=fun m e=>fQ e
 have k7:∀ m,(R.ux.set R.i false).getD m false=true→R.i≠m∧R.ux.getD m false=true:=fun m u=>by
  by_cases q:R.i=m
  ·subst q;rw[k3] at u;cases u
  ·exact⟨q,by rwa[k6 m q] at u⟩
 have hback:(R.ux.set R.i false).set R.i true=R.ux:=by
  apply List.ext_getElem (by simp)
  intro n h1 h2
  by_cases q:R.i=n
  ·subst q
   rw[List.getElem_set_self]
   rw[List.getD_eq_getElem?_getD,List.getElem?_eq_getElem h2] at hu
   exact hu.symm
  ·rw[List.getElem_set_ne q,List.getElem_set_ne q]
 have hct:gq 16 (R.ux.set R.i false)+1=gq 16 ux:=by
  rw[←Y5 (us:=R.ux.set R.i false) (i:=R.i) (by rw[List.length_set];exact lu) bi k3,hback];exact wc
 refine⟨⟨⟨by rw[List.length_set];exact lk,by rw[List.length_set];exact lp,by rw[List.length_set];exact lu⟩,by omega,fun m hm=>?_,fun m hm u=>?_,fun m hm u=>?_,fun a b ha hb ua ub e=>?_,fun m hm u=>?_⟩,hct,fun m q=>?_⟩
 ·by_cases q:R.i=m
  ·subst q;rw[k1];unfold eX;omega
  ·rw[k4 m q];exact kin m hm
 ·by_cases q:R.i=m
  ·subst q;exact⟨k1,k2⟩
  ·rw[k4 m q,k5 m q];exact zer m hm (by rwa[k6 m q] at u)
 ·obtain⟨q,u⟩:=k7 m u
  rw[k5 m q];exact pin m hm u
 ·obtain⟨qa,ua⟩:=k7 a ua
  obtain⟨qb,ub⟩:=k7 b ub
  rw[k4 a qa,k4 b qb] at e
  exact one a b ha hb (Ne.symm qa) (Ne.symm qb) ua ub e
 ·obtain⟨q,u⟩:=k7 m u
  obtain⟨p1,p2⟩:=pa m hm (Ne.symm q) u
  have hh:=wC (kin m hm)
  have mj:m≠R.j:=fun e=>by subst e;rw[wf] at u;cases u
  unfold Pa at p1 ⊢
  rw[k4 m q]
  have no:¬ ds (hmN (R.kx.getD m 0)) R.i<ds (hmN (R.kx.getD m 0)) m:=fun g=>by
   have g2:=p2 g
   have:=p1 (ds (hmN (R.kx.getD m 0)) R.j) (by unfold ds at g g2 hds ⊢;omega)
   rw[show(hmN (R.kx.getD m 0)+ds (hmN (R.kx.getD m 0)) R.j)%16=R.j by unfold ds;omega,wf] at this
   cases this
  intro t ht
  have:R.i≠(hmN (R.kx.getD m 0)+t)%16:=fun e=>by
   apply no;unfold ds at ht ⊢;omega
  rw[k6 _ this]
  exact p1 t ht
 ·rw[←ce]
  constructor
  ·rintro⟨a,ha,ua,e1,e2⟩
   obtain⟨qa,ua⟩:=k7 a ua
   exact⟨a,ha,Ne.symm qa,ua,by rw[←e1,k4 a qa],by rw[←e2,k5 a qa]⟩
  ·rintro⟨a,ha,na,ua,e1,e2⟩
   exact⟨a,ha,by rw[k6 a (Ne.symm na)];exact ua,by rw[k4 a (Ne.symm na)];exact e1,by rw[k5 a (Ne.symm na)];exact e2⟩
structure Inv (T:Tb) (L F:List Int):Prop where
 sz:T.sz
 ar:Ar T.nx T.us T.fr F
 od:Or T.ps T.no T.h T.t L
 ix:Ix T.kx T.px T.ux
 us:∀ i:Nat,(i:Int)<T.n→T.us.getD i false=decide ((i:Int)∈L)
 ce:∀ m q,Ce T.kx T.px T.ux m q↔∃ i:Nat,q=i∧(i:Int)<T.n∧T.us.getD i false=true∧T.ks.getD i 0=m
 bk:∀ i:Nat,(i:Int)<T.n→T.us.getD i false=true→bk6 T i=0
 zr:∀ i:Nat,(i:Int)<T.n→T.us.getD i false=false→T.ks.getD i 0=0∧z6 T i=true
theorem jP {T:Tb} {L F:List Int} (v:Inv T L F) {x:Int} (h:x∈L):0≤x∧x<T.n∧T.us.getD x.toNat false=true:=by
 have r:=gU v.od.2.2.2.2.1 x h
 have l:=v.od.2.2.1
 obtain⟨_,_,_,_,_,s6⟩:=v.sz
 refine⟨r.1,by omega,?_⟩
 rw[v.us x.toNat (by omega),show((x.toNat:Nat):Int)=x by omega]
 simpa using h
theorem mV {T:Tb} {L F:List Int} (v:Inv T L F) {i:Nat} (hi:(i:Int)<T.n) (hu:T.us.getD i false=true):Ce T.kx T.px T.ux (T.ks.getD i 0) i:=(v.ce _ _).2 ⟨i,rfl,hi,hu,rfl⟩
theorem JA {T:Tb} {L F:List Int} (v:Inv T L F) {i j:Nat} (hi:(i:Int)<T.n) (hj:(j:Int)<T.n) (ui:T.us.getD i false=true) (uj:T.us.getD j false=true) (e:T.ks.getD i 0=T.ks.getD j 0):i=j:=by
 have a:=mV v hi ui
 have b:=mV v hj uj
 rw[←e] at b
 have:=alp v.ix a b
 omega
theorem tY {T:Tb} (ho:fZ T) (h:jL T=0):∃ L F,Inv T L F:=by
 obtain⟨h1,h2,h3,h4,h5,h6⟩:=D6 h
 obtain⟨F,ar⟩:=Qw h2
 obtain⟨L,od⟩:=OQ h4
 have ix:=QL ho.1 ho.2.2.2.2.2.2.2.1 h3
 have hl:vH T.ps T.no T.h T.t=L:=by
  rw[(ags h).1];exact(mJ od.2.2.2.2.1 (jV od)).1
 rw[hl] at h5
 have ul:(T.us.length:Int)=T.n:=by have:=ar.2.2.1;have:=h1.2.2.2.2.1;omega
 have hus:∀ i:Nat,(i:Int)<T.n→T.us.getD i false=decide ((i:Int)∈L):=fun i hi=>by
  have:=h5 i (by omega)
  unfold qO at this
  rw[Bool.or_eq_false_iff] at this
  simpa [inB] using this.1
 have hks:∀ i:Nat,(i:Int)<T.n→eX (T.ks.getD i 0):=fun i hi=>ho.2.1 i (by have:=h1.2.2.1;omega)
 have hus2:∀ i:Nat,(i:Int)<T.n→T.us.getD i false=true→tK T.kx T.px T.ux (T.ks.getD i 0)=0∧pV T.kx T.px T.ux (T.ks.getD i 0)=i∧bk6 T i=0:=fun i hi u=>by
  have:=h5 i (by omega)
  unfold qO at this
  rw[Bool.or_eq_false_iff,if_pos u,decide_eq_false_iff_not] at this
  have t:=this.2
  exact⟨Classical.byContradiction fun n=>t (.inl n),Classical.byContradiction fun n=>t (.inr (.inl n)),Classical.byContradiction fun n=>t (.inr (.inr n))⟩
 refine⟨L,F,h1,ar,od,ix,hus,fun m q=>⟨?_,?_⟩,fun i hi u=>(hus2 i hi u).2.2,fun i hi u=>?_⟩
 ·rintro⟨j,hj,uj,e1,e2⟩
  obtain⟨i,a,b,c,d,_⟩:=Ry ho h hj uj
  exact⟨i,by rw[←e2];exact c,a,b,by rw[←d];exact e1⟩
 ·rintro⟨i,rfl,hi,u,e⟩
  obtain⟨g1,g2,_⟩:=hus2 i hi u
  rw[e] at g1 g2
  have hk:eX m:=by rw[←e];exact hks i hi
  obtain⟨a,_,⟨b,c⟩ | ⟨b,_⟩⟩:=yR ix hk
  ·unfold pV at g2
   rw[if_pos h3,if_pos b] at g2
   exact⟨_,a,b,c,g2⟩
  ·unfold tK at g1
   rw[if_pos h3,b] at g1
   simp at g1
 ·have:=h5 i (by omega)
  unfold qO at this
  rw[Bool.or_eq_false_iff,if_neg (by rw[u];simp),Bool.or_eq_false_iff] at this
  exact⟨by simpa using this.2.1,by simpa using this.2.2⟩
theorem Iw {q:Nat→Bool}:∀ {n:Nat},(∀ j,j<n→q j=false)→cnt q n=0
 |0,_=>rfl
 |n+1,h=>by simp only[cnt,h n (by omega),cond_false];rw[Nat.add_zero];exact Iw fun j hj=>h j (by omega)
theorem Zl {q:Nat→Bool}:∀ {n i:Nat},i<n→q i=true→(∀ j,j<n→q j=true→j=i)→cnt q n=1
 |0,i,h,_,_=>by omega
 |n+1,i,h,hq,hn=>by
  by_cases e:i=n
  ·subst e
   simp only[cnt,hq,cond_true]
   rw[Iw fun j hj=>by
    cases c:q j with
    |false=>rfl
    |true=>have:=hn j (by omega) c;omega]
  ·have:q n=false:=by
    cases c:q n with
    |false=>rfl
    |true=>exact absurd (hn n (by omega) c).symm e
   simp only[cnt,this,cond_false]
   rw[Zl (i:=i) (by omega) hq fun j hj c=>hn j (by omega) c]
theorem DI {T:Tb} {L F:List Int} (v:Inv T L F):gq 16 T.ux=L.length:=by
 have hn:=v.od.2.2.2.1
 have e1:L.length=(L.map Int.toNat).length:=by simp
 have d2:=xk hn fun x hx=>(jP v hx).1
 have bp:∀ j,j<16→T.ux.getD j false=true→∃ i:Nat,T.px.getD j 0=i∧(i:Int)<T.n∧T.us.getD i false=true∧T.ks.getD i 0=T.kx.getD j 0:=fun j hj uj=>(v.ce _ _).1 ⟨j,hj,uj,rfl,rfl⟩
 have d1:(((List.range 16).filter fun i=>T.ux.getD i false).map fun j=>(T.px.getD j 0).toNat).Nodup:=by
  refine yw (List.nodup_range.filter _) fun x hx y hy e=>?_
  rw[List.mem_filter,List.mem_range] at hx hy
  obtain⟨i,a,b,c,d⟩:=bp x hx.1 hx.2
  obtain⟨i',a',b',c',d'⟩:=bp y hy.1 hy.2
  have:i=i':=by omega
  subst this
  exact v.ix.2.2.2.2.2.1 x y hx.1 hy.1 hx.2 hy.2 (by rw[←d,d'])
 rw[oU,e1]
 apply Nat.le_antisymm
 ·have:=mY d1 (M:=L.map Int.toNat) fun x hx=>by
   obtain⟨j,hj,e⟩:=List.mem_map.1 hx
   rw[List.mem_filter,List.mem_range] at hj
   obtain⟨i,a,b,c,d⟩:=bp j hj.1 hj.2
   rw[v.us i b] at c
   exact List.mem_map.2 ⟨i,by simpa using c,by omega⟩
  rwa[List.length_map] at this
 ·have:=mY d2 (M:=((List.range 16).filter fun i=>T.ux.getD i false).map fun j=>(T.px.getD j 0).toNat) fun x hx=>by
   obtain⟨y,hy,e⟩:=List.mem_map.1 hx
   obtain⟨a,b,c⟩:=jP v hy
   obtain⟨j,hj,uj,_,e2⟩:=mV v (i:=y.toNat) (by omega) c
   exact List.mem_map.2 ⟨j,by rw[List.mem_filter,List.mem_range];exact⟨hj,uj⟩,by omega⟩
  simp only[List.length_map] at this ⊢;exact this
theorem afm {T:Tb} {L F:List Int} (v:Inv T L F):xB T=0:=by
 have hc:=(mJ v.od.2.2.2.2.1 (jV v.od)).1
 unfold xB
 rw[hc,v.ix.1.1,if_pos ⟨v.sz,Yk v.ar,VL v.ix,VP v.od,DI v⟩,if_pos]
 rw[dZ]
 intro i _ hi
 have hi:(i:Int)<T.n:=by have:=v.sz.1;omega
 unfold qJ
 rw[v.ix.1.1]
 have e1:T.us.getD i false=inB L i:=v.us i hi
 have e2:Zn 16 T.kx T.px T.ux i (T.ks.getD i 0)=true:=by
  unfold Zn
  rw[Ho]
  intro j hj
  unfold QV
  cases u:T.ux.getD j false with
  |false=>rfl
  |true=>
   by_cases p:T.px.getD j 0=i
   ·obtain⟨i',a,b,c,d⟩:=(v.ce _ _).1 ⟨j,hj,u,rfl,p⟩
    have:i=i':=by omega
    subst this
    rw[d,beq_self_eq_true,Bool.or_true]
   ·rw[beq_eq_false_iff_ne.2 p];rfl
 have e3:T.us.getD i false=decide (KZ 16 T.px T.ux i=1):=by
  unfold KZ
  cases u:T.us.getD i false with
  |true=>
   obtain⟨j,hj,uj,f1,f2⟩:=mV v hi u
   rw[Zl (i:=j) hj (by unfold QV;simp only[uj,Bool.true_and];simpa using f2) fun j' hj' q=>?_]
   ·rfl
   ·unfold QV at q
    rw[Bool.and_eq_true] at q
    obtain⟨q1,q2⟩:=q
    have q2:T.px.getD j' 0=i:=by simpa using q2
    obtain⟨i',a,b,c,d⟩:=(v.ce _ _).1 ⟨j',hj',q1,rfl,q2⟩
    have:i=i':=by omega
    subst this
    exact v.ix.2.2.2.2.2.1 j' j hj' hj q1 uj (by rw[←d,f1])
  |false=>
   rw[Iw fun j hj=>?_]
   ·rfl
   ·unfold QV
    cases uj:T.ux.getD j false with
    |false=>rfl
    |true=>
     by_cases p:T.px.getD j 0=i
     ·obtain⟨i',a,b,c,d⟩:=(v.ce _ _).1 ⟨j,hj,uj,rfl,p⟩
      have:i=i':=by omega
      subst this
      rw[u] at c;cases c
     ·simpa using p
 rw[←e1,←e3,e2]
 cases u:T.us.getD i false with
 |true=>rw[if_pos rfl,v.bk i hi u];rfl
 |false=>
  obtain⟨z1,z2⟩:=v.zr i hi u
  rw[if_neg (by simp),z1,z2];rfl
theorem VQ {T:Tb} (ho:fZ T) {L F:List Int} (v:Inv T L F):jL T=0:=afL ho (afm v)
theorem aoI {T:Tb} (ho:fZ T):jL T=0↔xB T=0:=⟨fun h=>by obtain⟨L,F,v⟩:=tY ho h;exact afm v,afL ho⟩
theorem ahO (T:Tb):jL T=0∨jL T=8:=by
 unfold jL;split
 ·split
  ·exact .inl rfl
  ·exact .inr rfl
 ·exact .inr rfl
theorem agN (T:Tb):xB T=0∨xB T=8:=by
 unfold xB;split
 ·split
  ·exact .inl rfl
  ·exact .inr rfl
 ·exact .inr rfl
theorem pK {T:Tb} (ho:fZ T):jL T=xB T:=by
 have:=aoI ho
 rcases ahO T with a | a<;>rcases agN T with b | b<;>omega
theorem Bd {T:Tb} {L F:List Int} (v:Inv T L F) {i:Nat} {k:Int} (hk:eX k) (hi:(i:Int)<T.n) (hu:T.us.getD i false=true) (e:T.ks.getD i 0=k):tK T.kx T.px T.ux k=0∧pV T.kx T.px T.ux k=i:=
 adW v.ix hk (by rw[←e];exact mV v hi hu)
theorem aeP {T:Tb} {L F:List Int} (v:Inv T L F) {k:Int} (hk:eX k) (h:∀ i:Nat,(i:Int)<T.n→T.us.getD i false=true→T.ks.getD i 0≠k):tK T.kx T.px T.ux k=6∧pV T.kx T.px T.ux k=0∧T.ux.getD (dn T.kx T.ux k) false=false:=
 ahw v.ix hk fun q c=>by
  obtain⟨i,_,a,b,d⟩:=(v.ce _ _).1 c
  exact h i a b d
theorem aeS {T:Tb} {L F:List Int} (v:Inv T L F) (k:Int):(∃ i:Nat,(i:Int)<T.n∧T.us.getD i false=true∧T.ks.getD i 0=k)∨∀ i:Nat,(i:Int)<T.n→T.us.getD i false=true→T.ks.getD i 0≠k:=by
 by_cases c:∃ i:Nat,(i:Int)<T.n∧T.us.getD i false=true∧T.ks.getD i 0=k
 ·exact .inl c
 ·exact .inr fun i a b d=>c ⟨i,a,b,d⟩
def Tb.without (T:Tb) (k:Int) (i:Nat):Tb:=⟨T.n,T.ks.set i 0,T.x1.set i 0,T.x2.set i 0,T.x3.set i 0,T.x4.set i 0,T.x5.set i 0,T.x6.set i 0,T.nx.set i T.fr,T.us.set i false,i,
 (kP T.kx T.px T.ux k).kx.set (kP T.kx T.px T.ux k).i 0,(kP T.kx T.px T.ux k).px.set (kP T.kx T.px T.ux k).i 0,(kP T.kx T.px T.ux k).ux.set (kP T.kx T.px T.ux k).i false,yI T.ps T.no i,Ak T.ps T.no i,Ht T.ps T.no T.h i,JF T.ps T.no T.t i⟩
def Tb.plus (T:Tb) (k b r p a:Int):Tb:=⟨T.n,T.ks.set T.fr.toNat k,T.x1.set T.fr.toNat b,T.x2.set T.fr.toNat r,T.x3.set T.fr.toNat p,T.x4.set T.fr.toNat b,T.x5.set T.fr.toNat 0,T.x6.set T.fr.toNat a,
 T.nx.set T.fr.toNat (-1),T.us.set T.fr.toNat true,T.nx.getD T.fr.toNat 0,T.kx.set (dn T.kx T.ux k) k,T.px.set (dn T.kx T.ux k) T.fr,T.ux.set (dn T.kx T.ux k) true,
 toP T.ps T.no T.h T.fr,toN T.ps T.no T.h T.fr,T.fr,Vl T.ps T.no T.h T.t T.fr⟩
def Tb.touch (T:Tb) (i:Int):Tb:={ T with ps:=toP T.ps T.no T.h i,no:=toN T.ps T.no T.h i,h:=i,t:=Vl T.ps T.no T.h T.t i }
theorem Gi (ps no:List Int) (p:Int):(yI ps no p).length=ps.length:=by unfold yI;split<;>simp
theorem Gx (ps no:List Int) (p:Int):(Ak ps no p).length=no.length:=by unfold Ak;split<;>simp
theorem BZ (ps no:List Int) (h p:Int):(toP ps no h p).length=ps.length:=by unfold toP;(repeat' split)<;>simp[Gi]
theorem FZ (ps no:List Int) (h p:Int):(toN ps no h p).length=no.length:=by unfold toN;rw[List.length_set];split<;>simp[Gx]
theorem kF {T:Tb} {L F:List Int} (v:Inv T L F):(T.us.length:Int)=T.n:=by have:=v.ar.2.2.1;have:=v.sz.2.2.2.2.1;omega
theorem Z8 {T:Tb} {L F:List Int} (v:Inv T L F) {i:Nat} (hi:(i:Int)<T.n) (hu:T.us.getD i false=true):Inv (T.touch i) ((i:Int)::wo L i) F:=by
 obtain⟨sz,ar,od,ix,us,ce,bk,zr⟩:=v
 have sz':=sz
 obtain⟨s1,s2,s3,s4,s5,s6⟩:=sz'
 refine⟨⟨s1,s2,s3,s4,s5,by show((toP T.ps T.no T.h i).length:Int)=T.n;rw[BZ];exact s6⟩,ar,Ju od (by omega) (by omega),ix,fun j hj=>?_,ce,bk,zr⟩
 show T.us.getD j false=decide ((j:Int)∈(i:Int)::wo L i)
 rw[us j hj]
 rw[us i hi,decide_eq_true_eq] at hu
 by_cases e:j=i
 ·subst e;simp[hu]
 ·have:(j:Int)≠i:=by omega
  simp[uQ,this]
theorem aa7 {T:Tb} (ho:fZ T) (i:Int):fZ (T.touch i):=by
 obtain⟨h1,h2,h3,h4,h5,h6,h7,h8,h9,h10⟩:=ho
 exact⟨h1,h2,h3,h4,h5,by show(toN T.ps T.no T.h i).length≤200;rw[FZ];exact h6,h7,h8,h9,by show(toP T.ps T.no T.h i).length≤200;rw[BZ];exact h10⟩
theorem ada {T U:Tb} {i:Nat} {a b c d e f:Int} (h1:U.x1=T.x1.set i a) (h2:U.x2=T.x2.set i b) (h3:U.x3=T.x3.set i c) (h4:U.x4=T.x4.set i d) (h5:U.x5=T.x5.set i e) (h6:U.x6=T.x6.set i f):
  ∀ j,i≠j→z6 U j=z6 T j∧bk6 U j=bk6 T j:=fun j n=>by
 unfold z6 bk6
 rw[h1,h2,h3,h4,h5,h6,getD_set_ne n,getD_set_ne n,getD_set_ne n,getD_set_ne n,getD_set_ne n,getD_set_ne n]
 exact⟨rfl,rfl⟩
theorem Fe {T:Tb} (ho:fZ T) {L F:List Int} (v:Inv T L F) {i:Nat} {k:Int} (hk:eX k) (hi:(i:Int)<T.n) (hu:T.us.getD i false=true) (e:T.ks.getD i 0=k):
  Inv (T.without k i) (wo L i) ((i:Int)::F)∧gq 16 (T.without k i).ux+1=gq 16 T.ux:=by
 have vk:=@JA _ _ _ v
 have ul:=kF v
 have hc:=mV v hi hu
 rw[e] at hc
 obtain⟨ix',ct',ce'⟩:=ahm v.ix hk hc
 have hm:(i:Int)∈L:=by have:=v.us i hi;rw[hu] at this;simpa using this.symm
 obtain⟨sz,ar,od,ix,us,ce,bk,zr⟩:=v
 have sz':=sz
 obtain⟨s1,s2,s3,s4,s5,s6⟩:=sz'
 obtain⟨_,k2,k3,k4,k5,k6⟩:=ho.2.2.2.2.2.2.1
 have zz:=@ada T (T.without k i) i 0 0 0 0 0 0 rfl rfl rfl rfl rfl rfl
 have u1:(T.us.set i false).getD i false=false:=fE (by omega)
 have u2:∀ j,i≠j→(T.us.set i false).getD j false=T.us.getD j false:=fun j n=>fQ n
 have u3:∀ j,(T.us.set i false).getD j false=true→i≠j∧T.us.getD j false=true:=fun j u=>by
  by_cases q:i=j
  ·subst q;rw[u1] at u;cases u
  ·exact⟨q,by rwa[u2 j q] at u⟩
 have q2:∀ j,i≠j→(T.ks.set i 0).getD j 0=T.ks.getD j 0:=fun j n=>getD_set_ne n
 refine⟨⟨⟨s1,s2,?_,?_,?_,?_⟩,?_,Dv od hm,ix',fun j hj=>?_,fun m q=>?_,fun j hj u=>?_,fun j hj u=>?_⟩,ct'⟩
 ·show((T.ks.set i 0).length:Int)=T.n;rw[List.length_set];exact s3
 ·show((T.x1.set i 0).length:Int)=T.n;rw[List.length_set];exact s4
 ·show((T.nx.set i T.fr).length:Int)=T.n;rw[List.length_set];exact s5
 ·show((yI T.ps T.no i).length:Int)=T.n;rw[Gi];exact s6
 ·have:=aiT ar (p:=i) (by omega) (by omega) (by rw[Int.toNat_natCast];exact hu)
  rw[Int.toNat_natCast] at this;exact this
 ·show(T.us.set i false).getD j false=decide ((j:Int)∈wo L i)
  change (j:Int)<T.n at hj
  by_cases q:i=j
  ·subst q;rw[u1];simp[uQ]
  ·have:(j:Int)≠i:=by omega
   rw[u2 j q,us j hj];simp[uQ,this]
 ·refine(ce' m q).trans ⟨?_,?_⟩
  ·rintro⟨c,n⟩
   obtain⟨j,a1,a2,a3,a4⟩:=(ce m q).1 c
   have q:i≠j:=fun q=>n (by rw[←a4,←q];exact e)
   exact⟨j,a1,a2,by show(T.us.set i false).getD j false=true;rw[u2 j q];exact a3,by show(T.ks.set i 0).getD j 0=m;rw[q2 j q];exact a4⟩
  ·rintro⟨j,a1,a2,a3,a4⟩
   obtain⟨q,a3⟩:=u3 j a3
   change (T.ks.set i 0).getD j 0=m at a4
   rw[q2 j q] at a4
   exact⟨(ce m _).2 ⟨j,a1,a2,a3,a4⟩,fun n=>q (vk hi a2 hu a3 (by rw[e,a4,n]))⟩
 ·obtain⟨q,u⟩:=u3 j u
  rw[(zz j q).2];exact bk j hj u
 ·change (j:Int)<T.n at hj
  by_cases q:i=j
  ·subst q
   refine⟨by show(T.ks.set i 0).getD i 0=0;rw[aN (by omega)],?_⟩
   unfold z6
   show((T.x1.set i 0).getD i 0 ==0 && ((T.x2.set i 0).getD i 0 ==0 && ((T.x3.set i 0).getD i 0 ==0 && ((T.x4.set i 0).getD i 0 ==0 && ((T.x5.set i 0).getD i 0 ==0 && (T.x6.set i 0).getD i 0 ==0)))))=true
   rw[aN (by omega),aN (by omega),aN (by omega),aN (by omega),aN (by omega),aN (by omega)];rfl
  ·have u':T.us.getD j false=false:=by rw[←u2 j q];exact u
   have:=zr j hj u'
   exact⟨by show(T.ks.set i 0).getD j 0=0;rw[q2 j q];exact this.1,by rw[(zz j q).1];exact this.2⟩
theorem YA {l:List Int} {i:Nat} {x:Int} (h:∀ j,j<l.length→eX (l.getD j 0)) (hx:eX x):∀ j,j<(l.set i x).length→eX ((l.set i x).getD j 0):=fun j hj=>by
 rw[List.length_set] at hj
 by_cases e:i=j
 ·subst e;rw[aN hj];exact hx
 ·rw[getD_set_ne e];exact h j hj
theorem U0 {l m:List Int} {i:Nat} {x:Int} (hl:m.length=l.length) (h:∀ j,j<l.length→gy (m.getD j 0)) (hx:gy x) (y:Int):∀ j,j<(l.set i y).length→gy ((m.set i x).getD j 0):=fun j hj=>by
 rw[List.length_set] at hj
 by_cases e:i=j
 ·subst e;rw[aN (by omega)];exact hx
 ·rw[getD_set_ne e];exact h j hj
theorem YR {x1 x2 x3 x4 x5 x6:List Int} {i:Nat} {a b c d e f:Int} (h:kcS x1 x2 x3 x4 x5 x6):kcS (x1.set i a) (x2.set i b) (x3.set i c) (x4.set i d) (x5.set i e) (x6.set i f):=by
 unfold kcS at h ⊢;simp only[List.length_set];exact h
theorem RN {T:Tb} (ho:fZ T) {L F:List Int} (v:Inv T L F) {i:Nat} {k:Int} (hk:eX k) (hi:(i:Int)<T.n) (hu:T.us.getD i false=true) (e:T.ks.getD i 0=k):fZ (T.without k i):=by
 have w:=(Fe ho v hk hi hu e).1
 obtain⟨h1,h2,h3,h4,h5,h6,h7,h8,h9,h10⟩:=ho
 refine⟨Xj w.ix,YA h2 (by unfold eX;omega),U0 h7.2.2.2.1 h3 (by unfold gy;omega) 0,?_,?_,?_,YR h7,ajO w.ix,?_,?_⟩
 ·show(T.nx.set i T.fr).length≤200;rw[List.length_set];exact h4
 ·show(T.us.set i false).length≤200;rw[List.length_set];exact h5
 ·show(Ak T.ps T.no i).length≤200;rw[Gx];exact h6
 ·show(T.ks.set i 0).length≤200;rw[List.length_set];exact h9
 ·show(yI T.ps T.no i).length≤200;rw[Gi];exact h10
theorem adn {b r p:Int} (h:iF b r p=0):qA b r p b 0=0:=by
 unfold iF at h;unfold qA
 split at h
 next c=>rw[if_pos];omega
 next=>cases h
theorem Z9 {b r p:Int} (h:iF b r p=0):gy b:=by
 unfold iF at h
 split at h
 next c=>unfold gy;omega
 next=>cases h
theorem Iz {T:Tb} {L F:List Int} (v:Inv T L F) (x:Int) (h0:0≤x) (h1:x<T.n):x∈F↔x∉L:=by
 have a:=(v.ar.2.2.2.2.2 x.toNat (by have:=v.sz.2.2.2.2.1;omega)).1
 have b:=v.us x.toNat (by omega)
 rw[show((x.toNat:Nat):Int)=x by omega] at a b
 rw[a] at b
 by_cases c:x∈F<;>by_cases d:x∈L<;>simp[c,d] at b ⊢
theorem Vh {T:Tb} (ho:fZ T) {L F:List Int} (v:Inv T L F) {k b r p a:Int} (hk:eX k) (hf:T.fr≠-1) (hn:∀ i:Nat,(i:Int)<T.n→T.us.getD i false=true→T.ks.getD i 0≠k) (hb:iF b r p=0):
  ∃ F',F=T.fr::F'∧0≤T.fr∧T.fr<T.n∧T.fr∉L∧Inv (T.plus k b r p a) (T.fr::L) F':=by
 have ul:=kF v
 have hct:=DI v
 obtain⟨F',eF,f0,f1,ar'⟩:=F6 v.ar hf
 have hfree:=Iz v T.fr f0 (by have:=v.sz.2.2.2.2.1;omega)
 have hnL:T.fr∉L:=hfree.1 (by rw[eF];simp)
 have hlen:L.length≤8:=by
  have:=jE (jV v.od)
  have:=v.od.2.2.1
  have:=v.sz.2.1
  have:=v.sz.2.2.2.2.2
  omega
 have hfn:T.fr<T.n:=by have:=v.sz.2.2.2.2.1;omega
 obtain⟨ix',_,ce'⟩:=ak6 v.ix (k:=k) (p:=T.fr) hk ⟨f0,by have:=v.sz.2.1;omega⟩ (fun q c=>by
  obtain⟨j,_,b1,b2,b3⟩:=(v.ce _ _).1 c
  exact hn j b1 b2 b3) (by omega)
 obtain⟨sz,ar,od,ix,us,ce,bk,zr⟩:=v
 have sz':=sz
 obtain⟨s1,s2,s3,s4,s5,s6⟩:=sz'
 obtain⟨_,k2,k3,k4,k5,k6⟩:=ho.2.2.2.2.2.2.1
 have od':=Ju od (p:=T.fr) f0 (by omega)
 rw[GK hnL] at od'
 obtain⟨i,ei⟩:∃ i:Nat,T.fr=i:=⟨T.fr.toNat,by omega⟩
 have et:T.fr.toNat=i:=by omega
 have zz:=@ada T (T.plus k b r p a) T.fr.toNat b r p b 0 a rfl rfl rfl rfl rfl rfl
 rw[et] at zz
 have u1:(T.us.set T.fr.toNat true).getD i false=true:=by rw[et];exact fE (by omega)
 have u2:∀ j,i≠j→(T.us.set T.fr.toNat true).getD j false=T.us.getD j false:=fun j n=>by rw[et];exact fQ n
 have q1:(T.ks.set T.fr.toNat k).getD i 0=k:=by rw[et];exact aN (by omega)
 have q2:∀ j,i≠j→(T.ks.set T.fr.toNat k).getD j 0=T.ks.getD j 0:=fun j n=>by rw[et];exact getD_set_ne n
 have ui:T.us.getD i false=false:=by
  rw[us i (by omega),←ei];simpa using hnL
 refine⟨F',eF,f0,hfn,hnL,⟨⟨s1,s2,?_,?_,?_,?_⟩,ar',od',ix',fun j hj=>?_,fun m q=>?_,fun j hj u=>?_,fun j hj u=>?_⟩⟩
 ·show((T.ks.set T.fr.toNat k).length:Int)=T.n;rw[List.length_set];exact s3
 ·show((T.x1.set T.fr.toNat b).length:Int)=T.n;rw[List.length_set];exact s4
 ·show((T.nx.set T.fr.toNat (-1)).length:Int)=T.n;rw[List.length_set];exact s5
 ·show((toP T.ps T.no T.h T.fr).length:Int)=T.n;rw[BZ];exact s6
 ·show(T.us.set T.fr.toNat true).getD j false=decide ((j:Int)∈T.fr::L)
  change (j:Int)<T.n at hj
  by_cases q:i=j
  ·subst q;rw[u1,ei];simp
  ·have:(j:Int)≠i:=by omega
   rw[u2 j q,us j hj,ei];simp[this]
 ·refine(ce' m q).trans ⟨?_,?_⟩
  ·rintro(c | ⟨c1,c2⟩)
   ·obtain⟨j,a1,a2,a3,a4⟩:=(ce m q).1 c
    have n:i≠j:=fun n=>by subst n;rw[ui] at a3;cases a3
    exact⟨j,a1,a2,by show(T.us.set T.fr.toNat true).getD j false=true;rw[u2 j n];exact a3,by show(T.ks.set T.fr.toNat k).getD j 0=m;rw[q2 j n];exact a4⟩
   ·exact⟨i,by rw[c2];exact ei,by show(i:Int)<T.n;omega,u1,by rw[c1];exact q1⟩
  ·rintro⟨j,a1,a2,a3,a4⟩
   change (T.us.set T.fr.toNat true).getD j false=true at a3
   change (T.ks.set T.fr.toNat k).getD j 0=m at a4
   by_cases n:i=j
   ·subst n
    rw[q1] at a4
    exact .inr ⟨a4.symm,by rw[a1];exact ei.symm⟩
   ·rw[u2 j n] at a3;rw[q2 j n] at a4
    exact .inl ((ce m q).2 ⟨j,a1,a2,a3,a4⟩)
 ·change (T.us.set T.fr.toNat true).getD j false=true at u
  change (j:Int)<T.n at hj
  by_cases q:i=j
  ·subst q
   unfold bk6
   show qA ((T.x1.set T.fr.toNat b).getD i 0) ((T.x2.set T.fr.toNat r).getD i 0) ((T.x3.set T.fr.toNat p).getD i 0) ((T.x4.set T.fr.toNat b).getD i 0) ((T.x5.set T.fr.toNat 0).getD i 0)=0
   rw[et,aN (by omega),aN (by omega),aN (by omega),aN (by omega),aN (by omega)]
   exact adn hb
  ·rw[u2 j q] at u
   rw[(zz j q).2];exact bk j hj u
 ·change (T.us.set T.fr.toNat true).getD j false=false at u
  change (j:Int)<T.n at hj
  have q:i≠j:=fun q=>by subst q;rw[u1] at u;cases u
  rw[u2 j q] at u
  have:=zr j hj u
  exact⟨by show(T.ks.set T.fr.toNat k).getD j 0=0;rw[q2 j q];exact this.1,by rw[(zz j q).1];exact this.2⟩
theorem adY {T:Tb} (ho:fZ T) {L F:List Int} (v:Inv T L F) {k b r p a:Int} (hk:eX k) (hf:T.fr≠-1) (hn:∀ i:Nat,(i:Int)<T.n→T.us.getD i false=true→T.ks.getD i 0≠k) (hb:iF b r p=0):fZ (T.plus k b r p a):=by
 obtain⟨_,_,_,_,_,w⟩:=Vh (a:=a) ho v hk hf hn hb
 obtain⟨h1,h2,h3,h4,h5,h6,h7,h8,h9,h10⟩:=ho
 refine⟨Xj w.ix,YA h2 hk,U0 h7.2.2.2.1 h3 (Z9 hb) b,?_,?_,?_,YR h7,ajO w.ix,?_,?_⟩
 ·show(T.nx.set T.fr.toNat (-1)).length≤200;rw[List.length_set];exact h4
 ·show(T.us.set T.fr.toNat true).length≤200;rw[List.length_set];exact h5
 ·show(toN T.ps T.no T.h T.fr).length≤200;rw[FZ];exact h6
 ·show(T.ks.set T.fr.toNat k).length≤200;rw[List.length_set];exact h9
 ·show(toP T.ps T.no T.h T.fr).length≤200;rw[BZ];exact h10
theorem Js {T:Tb} {L F:List Int} (v:Inv T L F):(L.length:Int)+F.length=T.n:=by
 have hL:=v.od.2.2.2.1
 have hF:=v.ar.2.2.2.1
 have rF:=gU v.ar.2.2.2.2.1
 obtain⟨s1,s2,s3,s4,s5,s6⟩:=v.sz
 have rL:∀ x∈L,0≤x∧x<T.n:=fun x hx=>⟨(jP v hx).1,(jP v hx).2.1⟩
 have rF':∀ x∈F,0≤x∧x<T.n:=fun x hx=>by have:=rF x hx;omega
 have nd:(L ++ F).Nodup:=by
  rw[List.nodup_append]
  exact⟨hL,hF,fun x hx y hy e=>by subst e;exact(Iz v x (rL x hx).1 (rL x hx).2).1 hy hx⟩
 have d1:=xk nd fun x hx=>by
  rcases List.mem_append.1 hx with m | m
  ·exact(rL x m).1
  ·exact(rF' x m).1
 have l1:=mY d1 (M:=List.range T.n.toNat) fun x hx=>by
  obtain⟨y,hy,e⟩:=List.mem_map.1 hx
  rw[List.mem_range]
  rcases List.mem_append.1 hy with m | m
  ·have:=rL y m;omega
  ·have:=rF' y m;omega
 have l2:=mY (List.nodup_range (n:=T.n.toNat)) (M:=(L ++ F).map Int.toNat) fun x hx=>by
  rw[List.mem_range] at hx
  have hx':(x:Int)<T.n:=by omega
  rw[List.mem_map]
  by_cases c:(x:Int)∈L
  ·exact⟨x,by simp[c],by omega⟩
  ·exact⟨x,by rw[List.mem_append];exact .inr ((Iz v x (by omega) hx').2 c),by omega⟩
 simp only[List.length_map,List.length_append,List.length_range] at l1 l2
 omega
theorem OL {T:Tb} (ho:fZ T) (c:jL T=0):alS T:=by
 obtain⟨L,F,v⟩:=tY ho c
 have ul:=kF v
 have s:=v.sz
 exact⟨ho.2.2.2.2.1,ul,by have:=s.2.2.2.1;omega,by have:=s.2.2.1;omega⟩
def rP (Q:Pt) (i:Nat):Bool:=decide (0<i) && ah .geq (Q.rv.getD (i - 1) 0) (Q.rv.getD i 0)
theorem am1 (Q:Pt) (hl:Q.rv.length≤200):
  ((∀ i,i<Q.rv.length→rP Q i=false)∧Rl 15 0 (FT Q 0 0).abs (.exit 4) (FT Q 0 Q.rv.length).abs)∨
  ((∃ i,i<Q.rv.length∧rP Q i=true)∧∃ j:Int,Rl 15 0 (FT Q 0 0).abs .ret (FT Q 8 j).abs):=by
 have pre:∀ i:Nat,0<i→i<Q.rv.length→ai .sub .i64 (i:Int) 1=((i - 1:Nat):Int):=fun i h0 hi=>by rw[dG,aY (by omega) (by omega)];omega
 have step:∀ i,i<Q.rv.length→rP Q i=false→∀ (σ:St) (e:Ex),Rn 15 0 (FT Q 0 ((i+1:Nat):Int)).abs e σ→Rn 15 0 (FT Q 0 (i:Int)).abs e σ:=fun i hi hp σ e hr=>by
  rw[←dW hi hl] at hr
  refine Ic Q 0 i σ e ?_ ?_ ?_ ?_<;>dsimp only[Az,Rg,At,Tr.q,Tr.e,RG,Jk]
  ·intro _ g1 g2
   rw[fD] at g1
   unfold O0 at g2
   rw[pre i (by omega) hi,Int.toNat_natCast,Int.toNat_natCast] at g2
   unfold rP at hp
   rw[g2,decide_eq_true (by omega)] at hp;cases hp
  ·intro _ g1 _
   rw[fD] at g1
   have hm:i - 1<Q.rv.length:=by omega
   rw[pre i (by omega) hi]
   exact⟨⟨(aA hm).1,(aA hm).2,(aA hi).1,(aA hi).2,trivial⟩,hr⟩
  ·intro _ _;exact⟨⟨(aA hi).1,(aA hi).2,trivial⟩,hr⟩
  ·intro g;rw[aX] at g;omega
 by_cases hx:∃ j,0≤j∧j<Q.rv.length∧¬ rP Q j=false
 ·obtain⟨j,_,j1,j2,_,j4⟩:=lQ (fun i=>FT Q 0 (i:Int)) Q.rv.length (fun i=>rP Q i=false) step Q.rv.length 0 (by omega) hx
  have hp:rP Q j=true:=by simpa using j2
  have hp':=hp
  unfold rP at hp'
  rw[Bool.and_eq_true,decide_eq_true_eq] at hp'
  have hm:j - 1<Q.rv.length:=by omega
  have c0:O0 Q j=true:=by unfold O0;rw[pre j hp'.1 j1,Int.toNat_natCast,Int.toNat_natCast];exact hp'.2
  refine .inr ⟨⟨j,j1,hp⟩,j,au (j4 _ _ (Ic Q 0 j _ _ ?_ ?_ ?_ ?_))⟩
  ·intro _ _ _
   rw[pre j hp'.1 j1]
   exact⟨⟨(aA hm).1,(aA hm).2,(aA j1).1,(aA j1).2,trivial⟩,rfl,rfl⟩
  ·intro _ _ g;rw[c0] at g;cases g
  ·intro _ g;rw[iD] at g;omega
  ·intro g;rw[aX] at g;omega
 ·have hf:∀ i,i<Q.rv.length→rP Q i=false:=fun i hi=>by
   cases e:rP Q i with
   |false=>rfl
   |true=>exact absurd ⟨i,by omega,hi,by simp[e]⟩ hx
  refine .inl ⟨hf,au ?_⟩
  refine fF (fun i=>FT Q 0 (i:Int)) Q.rv.length (fun i=>rP Q i=false) step ?_ Q.rv.length 0 (by omega) (fun j _ hj=>hf j hj)
  refine Ic Q 0 Q.rv.length _ _ ?_ ?_ ?_ ?_<;>dsimp only[Az,Rg,At,Tr.q,Tr.e,RG,Jk]
  ·intro g;rw[aP] at g;omega
  ·intro g;rw[aP] at g;omega
  ·intro g;rw[aP] at g;omega
  ·intro _;exact⟨trivial,rfl,rfl⟩
def ckP (Q:Pt):Prop:=Q.te<16∧nV Q.b0 Q.r0 Q.p0 Q.b1 Q.r1 Q.p1 Q.b2 Q.r2 Q.p2=true∧qA Q.ob Q.orr Q.op Q.ov Q.oq=0∧jL Q.U=0∧jL Q.E=0∧
 KL Q Q.b1 Q.r1 Q.p1 Q.b2 Q.r2 Q.p2=true∧(∀ i,i<Q.U.us.length→uP Q i=false)∧(∀ i,i<Q.E.us.length→eP Q i=false)∧Q.rv.length≤8∧∀ i,i<Q.rv.length→rP Q i=false
open Classical in
def sD (Q:Pt):Int:=if ckP Q then 0 else 8
theorem iR {Q:Pt} (h:¬ ckP Q):sD Q=8:=by unfold sD;rw[if_neg h]
theorem afw {Q:Pt} (h:ckP Q):sD Q=0:=by unfold sD;rw[if_pos h]
def Nc (Q:Pt):Prop:=gy Q.ov∧fZ Q.U∧fZ Q.E∧Q.rv.length≤200
theorem akU (Q:Pt) (h:Nc Q):Kl 15 [Q.d] (i64 (sD Q)):=by
 obtain⟨hv,hU,hE,hl⟩:=h
 by_cases d0:Q.te<16
 case neg=>
  rw[iR (fun n=>d0 n.1)]
  have f0:ah .geq Q.te 16=true:=by rw[dV];omega
  refine kQ Q 0 0 0 0 0 0 0 0 0 _ ?_ ?_ ?_ ?_ ?_ ?_ ?_ ?_<;>dsimp only[Az,Rg,At,Tr.q,Tr.e,mX]
  all_goals simp only[f0,reduceCtorEq,false_implies,true_implies,implies_true,forall_const,true_and,and_true]
 have f0:ah .geq Q.te 16=false:=by rw[dS];omega
 cases f1:nV Q.b0 Q.r0 Q.p0 Q.b1 Q.r1 Q.p1 Q.b2 Q.r2 Q.p2
 case false=>
  rw[iR (fun n=>by rw[n.2.1] at f1;cases f1)]
  refine kQ Q 0 0 0 0 0 0 0 0 0 _ ?_ ?_ ?_ ?_ ?_ ?_ ?_ ?_<;>dsimp only[Az,Rg,At,Tr.q,Tr.e,mX]
  all_goals simp only[f0,f1,Bool.not_false,reduceCtorEq,false_implies,true_implies,implies_true,forall_const,true_and,and_true]
 by_cases d2:qA Q.ob Q.orr Q.op Q.ov Q.oq=0
 case neg=>
  rw[iR (fun n=>d2 n.2.2.1)]
  have f2:ah .neq (qA Q.ob Q.orr Q.op Q.ov Q.oq) 0=true:=by rw[aI];exact d2
  refine kQ Q 0 0 0 0 0 0 0 0 0 _ ?_ ?_ ?_ ?_ ?_ ?_ ?_ ?_<;>dsimp only[Az,Rg,At,Tr.q,Tr.e,mX]
  all_goals simp only[f0,f1,f2,Bool.not_true,reduceCtorEq,false_implies,true_implies,implies_true,forall_const,true_and,and_true,hv]
 have f2:ah .neq (qA Q.ob Q.orr Q.op Q.ov Q.oq) 0=false:=by rw[aQ];exact d2
 by_cases d3:jL Q.U=0
 case neg=>
  rw[iR (fun n=>d3 n.2.2.2.1)]
  have f3:ah .neq (jL Q.U) 0=true:=by rw[aI];exact d3
  refine kQ Q 0 0 0 0 0 0 0 0 0 _ ?_ ?_ ?_ ?_ ?_ ?_ ?_ ?_<;>dsimp only[Az,Rg,At,Tr.q,Tr.e,mX]
  all_goals simp only[f0,f1,f2,f3,Bool.not_true,reduceCtorEq,false_implies,true_implies,implies_true,forall_const,true_and,and_true,hv,hU]
 have f3:ah .neq (jL Q.U) 0=false:=by rw[aQ];exact d3
 by_cases d4:jL Q.E=0
 case neg=>
  rw[iR (fun n=>d4 n.2.2.2.2.1)]
  have f4:ah .neq (jL Q.E) 0=true:=by rw[aI];exact d4
  refine kQ Q 0 0 0 0 0 0 0 0 0 _ ?_ ?_ ?_ ?_ ?_ ?_ ?_ ?_<;>dsimp only[Az,Rg,At,Tr.q,Tr.e,mX]
  all_goals simp only[f0,f1,f2,f3,f4,Bool.not_true,reduceCtorEq,false_implies,true_implies,implies_true,forall_const,true_and,and_true,hv,hU,hE]
 have f4:ah .neq (jL Q.E) 0=false:=by rw[aQ];exact d4
 rcases agy Q (OL hU d3) with⟨uf,ur⟩ | ⟨⟨i,i1,i2⟩,c1,c2,c3,k,ur⟩
 case inr=>
  rw[iR (fun n=>by rw[n.2.2.2.2.2.2.1 i i1] at i2;cases i2)]
  refine ZV Q c1 c2 c3 k _ ?_ ?_ ?_ ?_ ?_ ?_<;>dsimp only[Az,Rg,At,Tr.q,Tr.e,EO]
  all_goals simp only[f0,f1,f2,f3,f4,Bool.not_true,reduceCtorEq,false_implies,true_implies,implies_true,forall_const,true_and,and_true,hv,hU,hE]
  exact ur
 rcases agd Q (OL hE d4) with⟨ef,er⟩ | ⟨⟨i,i1,i2⟩,c1,c2,c3,k,er⟩
 case inr=>
  rw[iR (fun n=>by rw[n.2.2.2.2.2.2.2.1 i i1] at i2;cases i2)]
  refine aap Q Q.b1 Q.r1 Q.p1 c1 c2 c3 Q.U.us.length k _ ?_ ?_ ?_ ?_ ?_ ?_<;>dsimp only[Az,Rg,At,Tr.q,Tr.e,FI]
  all_goals simp only[f0,f1,f2,f3,f4,Bool.not_true,reduceCtorEq,false_implies,true_implies,implies_true,forall_const,true_and,and_true,hv,hU,hE]
  exact⟨er,ur⟩
 have c2:aeZ Q Q.b1 Q.r1 Q.p1 Q.b2 Q.r2 Q.p2=KL Q Q.b1 Q.r1 Q.p1 Q.b2 Q.r2 Q.p2:=rfl
 have c3:ad3 Q Q.b1 Q.r1 Q.p1 Q.U.us.length:=ur
 have c4:afA Q Q.b1 Q.r1 Q.p1 Q.b2 Q.r2 Q.p2 Q.E.us.length:=er
 cases f5:KL Q Q.b1 Q.r1 Q.p1 Q.b2 Q.r2 Q.p2
 case false=>
  rw[iR (fun n=>by rw[n.2.2.2.2.2.1] at f5;cases f5)]
  refine kQ Q Q.b1 Q.r1 Q.p1 Q.b2 Q.r2 Q.p2 Q.U.us.length Q.E.us.length 0 _ ?_ ?_ ?_ ?_ ?_ ?_ ?_ ?_<;>dsimp only[Az,Rg,At,Tr.q,Tr.e,mX]
  all_goals simp only[f0,f1,f2,f3,f4,c2,f5,c3,c4,Bool.not_true,Bool.not_false,reduceCtorEq,false_implies,true_implies,implies_true,forall_const,true_and,and_true,hv,hU,hE]
 by_cases d6:Q.rv.length≤8
 case neg=>
  rw[iR (fun n=>d6 n.2.2.2.2.2.2.2.2.1)]
  have f6:ah .gtr (Q.rv.length:Int) 8=true:=by rw[fD];omega
  refine kQ Q Q.b1 Q.r1 Q.p1 Q.b2 Q.r2 Q.p2 Q.U.us.length Q.E.us.length 0 _ ?_ ?_ ?_ ?_ ?_ ?_ ?_ ?_<;>dsimp only[Az,Rg,At,Tr.q,Tr.e,mX]
  all_goals simp only[f0,f1,f2,f3,f4,c2,f5,f6,c3,c4,Bool.not_true,Bool.not_false,reduceCtorEq,false_implies,true_implies,implies_true,forall_const,true_and,and_true,hv,hU,hE]
 have f6:ah .gtr (Q.rv.length:Int) 8=false:=by rw[iD];omega
 rcases am1 Q hl with⟨rf,rr⟩ | ⟨⟨i,i1,i2⟩,j,rr⟩
 case inr=>
  have e2:aep Q Q.b1 Q.r1 Q.p1 Q.b2 Q.r2 Q.p2=KL Q Q.b1 Q.r1 Q.p1 Q.b2 Q.r2 Q.p2:=rfl
  have e3:acL Q Q.b1 Q.r1 Q.p1 Q.U.us.length:=ur
  have e4:ae2 Q Q.b1 Q.r1 Q.p1 Q.b2 Q.r2 Q.p2 Q.E.us.length:=er
  rw[iR (fun n=>by rw[n.2.2.2.2.2.2.2.2.2 i i1] at i2;cases i2)]
  refine abR Q Q.b1 Q.r1 Q.p1 Q.b2 Q.r2 Q.p2 Q.U.us.length Q.E.us.length j _ ?_ ?_ ?_ ?_ ?_ ?_ ?_ ?_<;>dsimp only[Az,Rg,At,Tr.q,Tr.e,zf]
  all_goals simp only[f0,f1,f2,f3,f4,e2,f5,f6,e3,e4,Bool.not_true,Bool.not_false,reduceCtorEq,false_implies,true_implies,implies_true,forall_const,true_and,and_true,hv,hU,hE]
  exact rr
 rw[afw ⟨d0,f1,d2,d3,d4,f5,uf,ef,d6,rf⟩]
 refine kQ Q Q.b1 Q.r1 Q.p1 Q.b2 Q.r2 Q.p2 Q.U.us.length Q.E.us.length Q.rv.length _ ?_ ?_ ?_ ?_ ?_ ?_ ?_ ?_<;>dsimp only[Az,Rg,At,Tr.q,Tr.e,mX]
 all_goals simp only[f0,f1,f2,f3,f4,c2,f5,f6,c3,c4,Bool.not_true,Bool.not_false,reduceCtorEq,false_implies,true_implies,implies_true,forall_const,true_and,and_true,hv,hU,hE]
 exact rr
def Wq:List D→Option (D×List Prop)
 |[]=>some (.agg [i64 10,i64 1,i64 2],[])
 |_=>none
def X14:aB:=aF 65 (.call ppC) (aF 123 (.call pdC) X13)
theorem ads:bT Pg X14:=aj akq (aj akh aeb)
def aeL (T:Tb):=if gu T.nx T.us T.fr then T.nx.set T.fr.toNat (-1) else[]
def adC (T:Tb):=if gu T.nx T.us T.fr then T.us.set T.fr.toNat true else[]
def Cc (T:Tb):=kP T.kx T.px T.ux (T.ks.getD (nM T.ps T.no T.h T.t).toNat 0)
def Kq (T:Tb):=T.ks.set (dL T (T.ks.getD (nM T.ps T.no T.h T.t).toNat 0)).toNat 0
def vC (T:Tb):=T.x1.set (dL T (T.ks.getD (nM T.ps T.no T.h T.t).toNat 0)).toNat 0
def ve (T:Tb):=T.x2.set (dL T (T.ks.getD (nM T.ps T.no T.h T.t).toNat 0)).toNat 0
def vg (T:Tb):=T.x3.set (dL T (T.ks.getD (nM T.ps T.no T.h T.t).toNat 0)).toNat 0
def uU (T:Tb):=T.x4.set (dL T (T.ks.getD (nM T.ps T.no T.h T.t).toNat 0)).toNat 0
def vz (T:Tb):=T.x5.set (dL T (T.ks.getD (nM T.ps T.no T.h T.t).toNat 0)).toNat 0
def uT (T:Tb):=T.x6.set (dL T (T.ks.getD (nM T.ps T.no T.h T.t).toNat 0)).toNat 0
def Vx (T:Tb) (k:Int):=if nX T.ps T.no T.h T.t (dL T k) then toP T.ps T.no T.h (dL T k) else[]
def WC (T:Tb) (k:Int):=if nX T.ps T.no T.h T.t (dL T k) then toN T.ps T.no T.h (dL T k) else[]
def Xm (T:Tb) (k:Int):=if Aj T.kx T.px T.ux k (if gu T.nx T.us T.fr then T.fr else 0) then T.kx.set (dn T.kx T.ux k) k else[]
def ny (T:Tb):=if IA T.kx T.px T.ux (T.ks.getD (nM T.ps T.no T.h T.t).toNat 0) then(Cc T).kx.set (Cc T).i 0 else[]
def wO (T:Tb):=if IA T.kx T.px T.ux (T.ks.getD (nM T.ps T.no T.h T.t).toNat 0) then(Cc T).px.set (Cc T).i 0 else[]
def XK (T:Tb) (k:Int):=if Aj T.kx T.px T.ux k (if gu T.nx T.us T.fr then T.fr else 0) then T.ux.set (dn T.kx T.ux k) true else[]
def pz (T:Tb):=if IA T.kx T.px T.ux (T.ks.getD (nM T.ps T.no T.h T.t).toNat 0) then(Cc T).ux.set (Cc T).i false else[]
def nI (T:Tb):Int:=if CJ T.nx T.us T.fr (dL T (T.ks.getD (nM T.ps T.no T.h T.t).toNat 0)) then dL T (T.ks.getD (nM T.ps T.no T.h T.t).toNat 0) else 0
def XH (T:Tb):=if nX T.ps T.no T.h T.t (if gu T.nx T.us T.fr then T.fr else 0) then toP T.ps T.no T.h (if gu T.nx T.us T.fr then T.fr else 0) else[]
def Yg (T:Tb):=if nX T.ps T.no T.h T.t (if gu T.nx T.us T.fr then T.fr else 0) then toN T.ps T.no T.h (if gu T.nx T.us T.fr then T.fr else 0) else[]
def Wu (T:Tb) (k:Int):=if Aj T.kx T.px T.ux k (if gu T.nx T.us T.fr then T.fr else 0) then T.px.set (dn T.kx T.ux k) (if gu T.nx T.us T.fr then T.fr else 0) else[]
def qR (T:Tb):=if yT T.ps T.no T.h T.t (dL T (T.ks.getD (nM T.ps T.no T.h T.t).toNat 0)) then yI T.ps T.no (dL T (T.ks.getD (nM T.ps T.no T.h T.t).toNat 0)) else[]
def qV (T:Tb):=if yT T.ps T.no T.h T.t (dL T (T.ks.getD (nM T.ps T.no T.h T.t).toNat 0)) then Ak T.ps T.no (dL T (T.ks.getD (nM T.ps T.no T.h T.t).toNat 0)) else[]
def lT (T:Tb):=if CJ T.nx T.us T.fr (dL T (T.ks.getD (nM T.ps T.no T.h T.t).toNat 0)) then T.nx.set (dL T (T.ks.getD (nM T.ps T.no T.h T.t).toNat 0)).toNat T.fr else[]
def sW (T:Tb):Int:=if yT T.ps T.no T.h T.t (dL T (T.ks.getD (nM T.ps T.no T.h T.t).toNat 0)) then Ht T.ps T.no T.h (dL T (T.ks.getD (nM T.ps T.no T.h T.t).toNat 0)) else 0
def zo (T:Tb):Int:=if yT T.ps T.no T.h T.t (dL T (T.ks.getD (nM T.ps T.no T.h T.t).toNat 0)) then JF T.ps T.no T.t (dL T (T.ks.getD (nM T.ps T.no T.h T.t).toNat 0)) else 0
def nD (T:Tb):=if CJ T.nx T.us T.fr (dL T (T.ks.getD (nM T.ps T.no T.h T.t).toNat 0)) then T.us.set (dL T (T.ks.getD (nM T.ps T.no T.h T.t).toNat 0)).toNat false else[]
def Xq (T:Tb):=if gu (lT T) (nD T) (nI T) then(lT T).set (nI T).toNat (-1) else[]
def WW (T:Tb):=if gu (lT T) (nD T) (nI T) then(nD T).set (nI T).toNat true else[]
def I9 (T:Tb):=af [.ints .i64 T.x1, .ints .i64 T.x2, .ints .i64 T.x3, .ints .i64 T.x4, .ints .i64 T.x5, .ints .u64 T.x6]
def fC (T:Tb):Int:=if gu (lT T) (nD T) (nI T) then if CJ T.nx T.us T.fr (dL T (T.ks.getD (nM T.ps T.no T.h T.t).toNat 0)) then dL T (T.ks.getD (nM T.ps T.no T.h T.t).toNat 0) else 0 else 0
def Yj (T:Tb) (k:Int):=if Aj (ny T) (wO T) (pz T) k (fC T) then(ny T).set (dn (ny T) (pz T) k) k else[]
def VS (T:Tb) (k:Int):=if Aj (ny T) (wO T) (pz T) k (fC T) then(pz T).set (dn (ny T) (pz T) k) true else[]
def WL (T:Tb) (k:Int):=if Aj (ny T) (wO T) (pz T) k (fC T) then(wO T).set (dn (ny T) (pz T) k) (fC T) else[]
def XF (T:Tb):=if nX (qR T) (qV T) (sW T) (zo T) (fC T) then toP (qR T) (qV T) (sW T) (fC T) else[]
def WO (T:Tb):=if nX (qR T) (qV T) (sW T) (zo T) (fC T) then toN (qR T) (qV T) (sW T) (fC T) else[]
def KX (T:Tb) (k b r p a:Int):Tr D:= .s (fZ T) (.e (ah .neq (jL T) 0) (.lf (D.aS [D.agg [i64 0,bZ,bZ,bZ,bZ,i64 0,bZ,bZ,bZ,i64 0,i64 0],u32 0,bo false,i64 (jL T)])) (.d (ah .neq (iF b r p) 0) (fun e1=> .p (.d true) (.k _ e1 (.lf (D.aS [D.agg [i64 0,bZ,bZ,bZ,bZ,i64 0,bZ,bZ,bZ,i64 0,i64 0],u32 0,bo false,i64 (iF b r p)])))) (fun e1=> .p (.c 0) (.s (T.ks.length≤200) (.s (kcS T.x1 T.x2 T.x3 T.x4 T.x5 T.x6) (.s (T.nx.length≤200) (.s (T.us.length≤200) (.s (FM T.kx T.px T.ux) (.s (T.ps.length≤200) (.s (T.no.length≤200) (.s (fZ T∧eX k) (.q (af [.ints .i64 T.no]) (.q (af [.ints .i64 T.ps]) (.q (af [.ints .u32 T.kx, .ints .i64 T.px, .bools T.ux]) (.q (af [.bools T.us]) (.q (af [.ints .i64 T.nx]) (.q (af [.ints .i64 T.x1, .ints .i64 T.x2, .ints .i64 T.x3, .ints .i64 T.x4, .ints .i64 T.x5, .ints .u64 T.x6]) (.q (af [.ints .u32 T.ks]) (.e (ah .lss (dL T k) 0) (.s (T.us.length≤200∧T.nx.length≤200) (.q (af [.bools T.us]) (.q (af [.ints .i64 T.nx]) (.e (ah .neq (tkE T.nx T.us T.fr) 0) (.q (af [.ints .i64 T.no]) (.q (af [.ints .i64 T.ps]) (.s (decide (nM T.ps T.no T.h T.t< ↑(af [.ints .u32 T.ks]))=true) (.s (decide (0≤nM T.ps T.no T.h T.t)=true) (.s ((nM T.ps T.no T.h T.t).toNat<af [.ints .u32 T.ks]) (.s (fZ T∧eX (T.ks.getD (nM T.ps T.no T.h T.t).toNat 0)) (.q (af [.ints .i64 T.no]) (.q (af [.ints .i64 T.ps]) (.q (af [.ints .u32 T.kx, .ints .i64 T.px, .bools T.ux]) (.q (af [.bools T.us]) (.q (af [.ints .i64 T.nx]) (.q (af [.ints .i64 T.x1, .ints .i64 T.x2, .ints .i64 T.x3, .ints .i64 T.x4, .ints .i64 T.x5, .ints .u64 T.x6]) (.q (af [.ints .u32 T.ks]) (.q (af [.ints .i64 T.no]) (.q (af [.ints .i64 T.ps]) (.s (okI T.kx∧eX (T.ks.getD (nM T.ps T.no T.h T.t).toNat 0)∧FM T.kx T.px T.ux) (.q (af [.ints .u32 T.kx, .ints .i64 T.px, .bools T.ux]) (.s (T.us.length≤200∧T.nx.length≤200) (.q (af [.bools T.us]) (.q (af [.ints .i64 T.nx]) (.s (decide (dL T (T.ks.getD (nM T.ps T.no T.h T.t).toNat 0)< ↑(af [.ints .u32 T.ks]))=true) (.s (decide (0≤dL T (T.ks.getD (nM T.ps T.no T.h T.t).toNat 0))=true) (.s ((ay.ints .u32 T.ks).len=af [.ints .u32 T.ks]) (.s ((dL T (T.ks.getD (nM T.ps T.no T.h T.t).toNat 0)).toNat<af [.ints .u32 T.ks]) (.s (decide (dL T (T.ks.getD (nM T.ps T.no T.h T.t).toNat 0)< ↑(I9 T))=true) (.s (decide (0≤dL T (T.ks.getD (nM T.ps T.no T.h T.t).toNat 0))=true) (.s ((ay.ints .u64 T.x6).len=af [.ints .i64 T.x1, .ints .i64 T.x2, .ints .i64 T.x3, .ints .i64 T.x4, .ints .i64 T.x5, .ints .u64 T.x6]) (.s ((ay.ints .i64 T.x5).len=af [.ints .i64 T.x1, .ints .i64 T.x2, .ints .i64 T.x3, .ints .i64 T.x4, .ints .i64 T.x5, .ints .u64 T.x6]) (.s ((ay.ints .i64 T.x4).len=af [.ints .i64 T.x1, .ints .i64 T.x2, .ints .i64 T.x3, .ints .i64 T.x4, .ints .i64 T.x5, .ints .u64 T.x6]) (.s ((ay.ints .i64 T.x3).len=af [.ints .i64 T.x1, .ints .i64 T.x2, .ints .i64 T.x3, .ints .i64 T.x4, .ints .i64 T.x5, .ints .u64 T.x6]) (.s ((ay.ints .i64 T.x2).len=af [.ints .i64 T.x1, .ints .i64 T.x2, .ints .i64 T.x3, .ints .i64 T.x4, .ints .i64 T.x5, .ints .u64 T.x6]) (.s ((ay.ints .i64 T.x1).len=af [.ints .i64 T.x1, .ints .i64 T.x2, .ints .i64 T.x3, .ints .i64 T.x4, .ints .i64 T.x5, .ints .u64 T.x6]) (.s ((dL T (T.ks.getD (nM T.ps T.no T.h T.t).toNat 0)).toNat<af [.ints .i64 T.x1, .ints .i64 T.x2, .ints .i64 T.x3, .ints .i64 T.x4, .ints .i64 T.x5, .ints .u64 T.x6]) (.s ((nD T).length≤200∧(lT T).length≤200) (.q (af [.bools (nD T)]) (.q (af [.ints .i64 (lT T)]) (.s (okI (ny T)∧eX k∧FM (ny T) (wO T) (pz T)) (.q (af [.ints .u32 (ny T), .ints .i64 (wO T), .bools (pz T)]) (.s (decide ((fC T)< ↑(af [.ints .u32 T.ks]))=true) (.s (decide (0≤if gu (lT T) (nD T) (nI T) then if CJ T.nx T.us T.fr (dL T (T.ks.getD (nM T.ps T.no T.h T.t).toNat 0)) then dL T (T.ks.getD (nM T.ps T.no T.h T.t).toNat 0) else 0 else 0)=true) (.s ((ay.ints .u32 (Kq T)).len=af [.ints .u32 (Kq T)]) (.s ((fC T).toNat<af [.ints .u32 (Kq T)]) (.s (decide ((fC T)< ↑(I9 T))=true) (.s (decide (0≤if gu (lT T) (nD T) (nI T) then if CJ T.nx T.us T.fr (dL T (T.ks.getD (nM T.ps T.no T.h T.t).toNat 0)) then dL T (T.ks.getD (nM T.ps T.no T.h T.t).toNat 0) else 0 else 0)=true) (.s ((ay.ints .u64 (uT T)).len=af [.ints .i64 (vC T), .ints .i64 (ve T), .ints .i64 (vg T), .ints .i64 (uU T), .ints .i64 (vz T), .ints .u64 (uT T)]) (.s ((ay.ints .i64 (vz T)).len=af [.ints .i64 (vC T), .ints .i64 (ve T), .ints .i64 (vg T), .ints .i64 (uU T), .ints .i64 (vz T), .ints .u64 (uT T)]) (.s ((ay.ints .i64 (uU T)).len=af [.ints .i64 (vC T), .ints .i64 (ve T), .ints .i64 (vg T), .ints .i64 (uU T), .ints .i64 (vz T), .ints .u64 (uT T)]) (.s ((ay.ints .i64 (vg T)).len=af [.ints .i64 (vC T), .ints .i64 (ve T), .ints .i64 (vg T), .ints .i64 (uU T), .ints .i64 (vz T), .ints .u64 (uT T)]) (.s ((ay.ints .i64 (ve T)).len=af [.ints .i64 (vC T), .ints .i64 (ve T), .ints .i64 (vg T), .ints .i64 (uU T), .ints .i64 (vz T), .ints .u64 (uT T)]) (.s ((ay.ints .i64 (vC T)).len=af [.ints .i64 (vC T), .ints .i64 (ve T), .ints .i64 (vg T), .ints .i64 (uU T), .ints .i64 (vz T), .ints .u64 (uT T)]) (.s ((fC T).toNat<af [.ints .i64 (vC T), .ints .i64 (ve T), .ints .i64 (vg T), .ints .i64 (uU T), .ints .i64 (vz T), .ints .u64 (uT T)]) (.q (af [.ints .i64 (qV T)]) (.q (af [.ints .i64 (qR T)]) (.q (af [.ints .i64 (WO T)]) (.q (af [.ints .i64 (XF T)]) (.q (af [.ints .u32 (Yj T k), .ints .i64 (WL T k), .bools (VS T k)]) (.q (af [.bools (WW T)]) (.q (af [.ints .i64 (Xq T)]) (.s (af [.ints .i64 T.x1, .ints .i64 T.x2, .ints .i64 T.x3, .ints .i64 T.x4, .ints .i64 T.x5, .ints .u64 T.x6]=af [.ints .i64 ((vC T).set (fC T).toNat b), .ints .i64 ((ve T).set (fC T).toNat r), .ints .i64 ((vg T).set (fC T).toNat p), .ints .i64 ((uU T).set (fC T).toNat b), .ints .i64 ((vz T).set (fC T).toNat 0), .ints .u64 ((uT T).set (fC T).toNat a)]) (.s (af [.ints .u32 T.ks]=af [.ints .u32 ((Kq T).set (fC T).toNat k)]) (.lf (D.aS [D.agg [i64 T.n,D.oc [.ints .u32 ((Kq T).set (fC T).toNat k)],D.oc [.ints .i64 ((vC T).set (fC T).toNat b), .ints .i64 ((ve T).set (fC T).toNat r), .ints .i64 ((vg T).set (fC T).toNat p), .ints .i64 ((uU T).set (fC T).toNat b), .ints .i64 ((vz T).set (fC T).toNat 0), .ints .u64 ((uT T).set (fC T).toNat a)],D.oc [.ints .i64 (Xq T)],D.oc [.bools (WW T)],i64 (if gu (lT T) (nD T) (nI T) then(lT T).getD (nI T).toNat 0 else 0),D.oc [.ints .u32 (Yj T k), .ints .i64 (WL T k), .bools (VS T k)],D.oc [.ints .i64 (XF T)],D.oc [.ints .i64 (WO T)],i64 (if nX (qR T) (qV T) (sW T) (zo T) (fC T) then if gu (lT T) (nD T) (nI T) then if CJ T.nx T.us T.fr (dL T (T.ks.getD (nM T.ps T.no T.h T.t).toNat 0)) then dL T (T.ks.getD (nM T.ps T.no T.h T.t).toNat 0) else 0 else 0 else 0),i64 (if nX (qR T) (qV T) (sW T) (zo T) (fC T) then Vl (qR T) (qV T) (sW T) (zo T) (fC T) else 0)],u32 (T.ks.getD (nM T.ps T.no T.h T.t).toNat 0),bo true,i64 0])))))))))))))))))))))))))))))))))))))))))))))))))))))))))))))) (.s (T.us.length≤200∧T.nx.length≤200) (.q (af [.bools T.us]) (.q (af [.ints .i64 T.nx]) (.s (okI T.kx∧eX k∧FM T.kx T.px T.ux) (.q (af [.ints .u32 T.kx, .ints .i64 T.px, .bools T.ux]) (.s (decide ((if gu T.nx T.us T.fr then T.fr else 0)< ↑(af [.ints .u32 T.ks]))=true) (.s (decide (0≤if gu T.nx T.us T.fr then T.fr else 0)=true) (.s ((ay.ints .u32 T.ks).len=af [.ints .u32 T.ks]) (.s ((if gu T.nx T.us T.fr then T.fr else 0).toNat<af [.ints .u32 T.ks]) (.s (decide ((if gu T.nx T.us T.fr then T.fr else 0)< ↑(I9 T))=true) (.s (decide (0≤if gu T.nx T.us T.fr then T.fr else 0)=true) (.s ((ay.ints .u64 T.x6).len=af [.ints .i64 T.x1, .ints .i64 T.x2, .ints .i64 T.x3, .ints .i64 T.x4, .ints .i64 T.x5, .ints .u64 T.x6]) (.s ((ay.ints .i64 T.x5).len=af [.ints .i64 T.x1, .ints .i64 T.x2, .ints .i64 T.x3, .ints .i64 T.x4, .ints .i64 T.x5, .ints .u64 T.x6]) (.s ((ay.ints .i64 T.x4).len=af [.ints .i64 T.x1, .ints .i64 T.x2, .ints .i64 T.x3, .ints .i64 T.x4, .ints .i64 T.x5, .ints .u64 T.x6]) (.s ((ay.ints .i64 T.x3).len=af [.ints .i64 T.x1, .ints .i64 T.x2, .ints .i64 T.x3, .ints .i64 T.x4, .ints .i64 T.x5, .ints .u64 T.x6]) (.s ((ay.ints .i64 T.x2).len=af [.ints .i64 T.x1, .ints .i64 T.x2, .ints .i64 T.x3, .ints .i64 T.x4, .ints .i64 T.x5, .ints .u64 T.x6]) (.s ((ay.ints .i64 T.x1).len=af [.ints .i64 T.x1, .ints .i64 T.x2, .ints .i64 T.x3, .ints .i64 T.x4, .ints .i64 T.x5, .ints .u64 T.x6]) (.s ((if gu T.nx T.us T.fr then T.fr else 0).toNat<af [.ints .i64 T.x1, .ints .i64 T.x2, .ints .i64 T.x3, .ints .i64 T.x4, .ints .i64 T.x5, .ints .u64 T.x6]) (.q (af [.ints .i64 T.no]) (.q (af [.ints .i64 T.ps]) (.q (af [.ints .i64 (Yg T)]) (.q (af [.ints .i64 (XH T)]) (.q (af [.ints .u32 (Xm T k), .ints .i64 (Wu T k), .bools (XK T k)]) (.q (af [.bools (adC T)]) (.q (af [.ints .i64 (aeL T)]) (.s (af [.ints .i64 T.x1, .ints .i64 T.x2, .ints .i64 T.x3, .ints .i64 T.x4, .ints .i64 T.x5, .ints .u64 T.x6]=af [.ints .i64 (T.x1.set (if gu T.nx T.us T.fr then T.fr else 0).toNat b), .ints .i64 (T.x2.set (if gu T.nx T.us T.fr then T.fr else 0).toNat r), .ints .i64 (T.x3.set (if gu T.nx T.us T.fr then T.fr else 0).toNat p), .ints .i64 (T.x4.set (if gu T.nx T.us T.fr then T.fr else 0).toNat b), .ints .i64 (T.x5.set (if gu T.nx T.us T.fr then T.fr else 0).toNat 0), .ints .u64 (T.x6.set (if gu T.nx T.us T.fr then T.fr else 0).toNat a)]) (.s (af [.ints .u32 T.ks]=af [.ints .u32 (T.ks.set (if gu T.nx T.us T.fr then T.fr else 0).toNat k)]) (.lf (D.aS [D.agg [i64 T.n,D.oc [.ints .u32 (T.ks.set (if gu T.nx T.us T.fr then T.fr else 0).toNat k)],D.oc [.ints .i64 (T.x1.set (if gu T.nx T.us T.fr then T.fr else 0).toNat b), .ints .i64 (T.x2.set (if gu T.nx T.us T.fr then T.fr else 0).toNat r), .ints .i64 (T.x3.set (if gu T.nx T.us T.fr then T.fr else 0).toNat p), .ints .i64 (T.x4.set (if gu T.nx T.us T.fr then T.fr else 0).toNat b), .ints .i64 (T.x5.set (if gu T.nx T.us T.fr then T.fr else 0).toNat 0), .ints .u64 (T.x6.set (if gu T.nx T.us T.fr then T.fr else 0).toNat a)],D.oc [.ints .i64 (aeL T)],D.oc [.bools (adC T)],i64 (if gu T.nx T.us T.fr then T.nx.getD T.fr.toNat 0 else 0),D.oc [.ints .u32 (Xm T k), .ints .i64 (Wu T k), .bools (XK T k)],D.oc [.ints .i64 (XH T)],D.oc [.ints .i64 (Yg T)],i64 (if nX T.ps T.no T.h T.t (if gu T.nx T.us T.fr then T.fr else 0) then if gu T.nx T.us T.fr then T.fr else 0 else 0),i64 (if nX T.ps T.no T.h T.t (if gu T.nx T.us T.fr then T.fr else 0) then Vl T.ps T.no T.h T.t (if gu T.nx T.us T.fr then T.fr else 0) else 0)],u32 0,bo false,i64 0]))))))))))))))))))))))))))))))))) (.q (af [.ints .i64 T.no]) (.q (af [.ints .i64 T.ps]) (.q (af [.ints .i64 (WC T k)]) (.q (af [.ints .i64 (Vx T k)]) (.q (af [.ints .u32 T.kx, .ints .i64 T.px, .bools T.ux]) (.q (af [.bools T.us]) (.q (af [.ints .i64 T.nx]) (.q (af [.ints .i64 T.x1, .ints .i64 T.x2, .ints .i64 T.x3, .ints .i64 T.x4, .ints .i64 T.x5, .ints .u64 T.x6]) (.q (af [.ints .u32 T.ks]) (.lf (D.aS [D.agg [i64 T.n,D.oc [.ints .u32 T.ks],D.oc [.ints .i64 T.x1, .ints .i64 T.x2, .ints .i64 T.x3, .ints .i64 T.x4, .ints .i64 T.x5, .ints .u64 T.x6],D.oc [.ints .i64 T.nx],D.oc [.bools T.us],i64 T.fr,D.oc [.ints .u32 T.kx, .ints .i64 T.px, .bools T.ux],D.oc [.ints .i64 (Vx T k)],D.oc [.ints .i64 (WC T k)],i64 (if nX T.ps T.no T.h T.t (dL T k) then dL T k else 0),i64 (if nX T.ps T.no T.h T.t (dL T k) then Vl T.ps T.no T.h T.t (dL T k) else 0)],u32 0,bo false,i64 0]))))))))))))))))))))))))))))))
theorem Aw (T:Tb) (k b r p a:Int) (res:D) (h0:Az res (KX T k b r p a) [true]) (h1:Az res (KX T k b r p a) [false,true]) (h2:Az res (KX T k b r p a) [false,false,true,true]) (h3:Az res (KX T k b r p a) [false,false,true,false]) (h4:Az res (KX T k b r p a) [false,false,false]):Kl 24 [T.d,u32 k,D.agg [i64 b,i64 r,i64 p],u64 a] res:=fA (ads) (KX T k b r p a) ⟨h0,fun e0=>⟨h1 e0,fun e1=>⟨fun e2=>⟨h2 e0 e1 e2,h3 e0 e1 e2⟩,h4 e0 e1⟩⟩⟩
def Tb.less (T:Tb):Tb:=T.without (T.ks.getD T.t.toNat 0) T.t.toNat
def Ld (T:Tb) (k b r p:Int):Prop:=jL T=0∧iF b r p=0∧dL T k<0∧T.fr=-1
instance (T:Tb) (k b r p:Int):Decidable (Ld T k b r p):=by unfold Ld;exact inferInstance
def xW (T:Tb) (k b r p a:Int):Tb:=if jL T=0∧iF b r p=0 then(if dL T k<0 then(if T.fr=-1 then T.less.plus k b r p a else T.plus k b r p a) else T.touch (dL T k)) else t0
def OU (T:Tb) (k b r p:Int):Int:=if Ld T k b r p then T.ks.getD T.t.toNat 0 else 0
def usE (T:Tb) (b r p:Int):Int:=if jL T=0 then iF b r p else jL T
theorem IU {T:Tb} {L F:List Int} (v:Inv T L F) {k:Int} (hk:eX k):(∃ i:Nat,dL T k=i∧(i:Int)<T.n∧T.us.getD i false=true∧T.ks.getD i 0=k)∨(dL T k=-1∧∀ i:Nat,(i:Int)<T.n→T.us.getD i false=true→T.ks.getD i 0≠k):=by
 unfold dL
 rcases aeS v k with⟨i,a,b,c⟩ | h
 ·obtain⟨e1,e2⟩:=Bd v hk a b c
  exact .inl ⟨i,by rw[if_pos e1,e2],a,b,c⟩
 ·obtain⟨e1,_,_⟩:=aeP v hk h
  exact .inr ⟨by rw[if_neg (by rw[e1];omega)],h⟩
theorem yM {T:Tb} (ho:fZ T) {L F:List Int} (v:Inv T L F) {k:Int} (hk:eX k) (hf:T.fr≠-1) (hn:∀ i:Nat,(i:Int)<T.n→T.us.getD i false=true→T.ks.getD i 0≠k):
  gu T.nx T.us T.fr∧tkE T.nx T.us T.fr=0∧Aj T.kx T.px T.ux k T.fr∧nX T.ps T.no T.h T.t T.fr∧0≤T.fr∧T.fr<T.n:=by
 obtain⟨F',eF,f0,f1,_⟩:=F6 v.ar hf
 have hc:=DI v
 obtain⟨s1,s2,s3,s4,s5,s6⟩:=v.sz
 have hl:=jE (jV v.od)
 have hl2:=v.od.2.2.1
 have ak:=RQ v.ar
 refine⟨⟨ak,hf⟩,by unfold tkE;rw[if_pos ak,if_neg hf],⟨Ij v.ix,⟨f0,by omega⟩,(aeP v hk hn).2.2,by rw[v.ix.1.1];omega⟩,⟨UL v.od,f0,by omega⟩,f0,by omega⟩
theorem jY {T:Tb} (ho:fZ T) {L F:List Int} (v:Inv T L F):(T.ks.length:Int)=T.n∧(T.x1.length:Int)=T.n∧(T.x2.length:Int)=T.n∧(T.x3.length:Int)=T.n∧(T.x4.length:Int)=T.n∧(T.x5.length:Int)=T.n∧(T.x6.length:Int)=T.n:=by
 obtain⟨s1,s2,s3,s4,s5,s6⟩:=v.sz
 obtain⟨_,k2,k3,k4,k5,k6⟩:=ho.2.2.2.2.2.2.1
 omega
theorem oO {T:Tb} {L F:List Int} (v:Inv T L F) (hf:T.fr=-1):F=[]∧∃ (i:Nat) (A:List Int),T.t=i∧L=A ++ [T.t]∧(i:Int)<T.n∧T.us.getD i false=true:=by
 have hF:F=[]:=by
  rcases Bg v.ar.2.2.2.2.1 with⟨e,_⟩ | ⟨B,e⟩
  ·exact e
  ·have:=(gU v.ar.2.2.2.2.1) T.fr (by rw[e];simp)
   omega
 have hl:=Js v
 rw[hF] at hl
 simp only[List.length_nil] at hl
 have hne:L≠[]:=fun e=>by
  rw[e] at hl
  have:=v.sz.1
  simp only[List.length_nil] at hl
  omega
 obtain⟨A,eA⟩:=aix v.od hne
 obtain⟨a,b,c⟩:=jP v (x:=T.t) (by rw[eA];simp)
 exact⟨hF,T.t.toNat,A,by omega,eA,by omega,c⟩
theorem Jm {T:Tb} (ho:fZ T) {L F:List Int} (v:Inv T L F) (hf:T.fr=-1):Inv T.less (wo L T.t) [T.t]∧fZ T.less:=by
 obtain⟨hF,i,A,ei,eA,hi,hu⟩:=oO v hf
 have et:T.t.toNat=i:=by omega
 have hg:eX (T.ks.getD i 0):=ho.2.1 i (by have:=v.sz.2.2.1;omega)
 have w:=(Fe ho v hg hi hu rfl).1
 have w2:=RN ho v hg hi hu rfl
 unfold Tb.less
 rw[et]
 rw[hF] at w
 rw[ei]
 exact⟨w,w2⟩
theorem Ot {T:Tb} (ho:fZ T) {L F:List Int} (v:Inv T L F) (hf:T.fr=-1) {k:Int} (hn:∀ i:Nat,(i:Int)<T.n→T.us.getD i false=true→T.ks.getD i 0≠k):
  ∀ j:Nat,(j:Int)<T.less.n→T.less.us.getD j false=true→T.less.ks.getD j 0≠k:=fun j hj u=>by
 obtain⟨hF,i,A,ei,eA,hi,hu⟩:=oO v hf
 have ul:=kF v
 have et:T.t.toNat=i:=by omega
 change (j:Int)<T.n at hj
 change (T.us.set T.t.toNat false).getD j false=true at u
 show(T.ks.set T.t.toNat 0).getD j 0≠k
 rw[et] at u ⊢
 have q:i≠j:=fun q=>by subst q;rw[fE (by omega)] at u;cases u
 rw[fQ q] at u
 rw[getD_set_ne q]
 exact hn j hj u
theorem an8 (T:Tb) (k b r p a:Int) (h:fZ T∧eX k):Kl 24 [T.d,u32 k, .agg [i64 b,i64 r,i64 p],u64 a] (.aS [(xW T k b r p a).o,u32 (OU T k b r p),bo (decide (Ld T k b r p)),i64 (usE T b r p)]):=by
 obtain⟨ho,hk⟩:=h
 by_cases c:jL T=0∧iF b r p=0
 ·obtain⟨c1,c2⟩:=c
  obtain⟨L,F,v⟩:=tY ho c1
  have hE:usE T b r p=0:=by unfold usE;rw[if_pos c1];exact c2
  have ho':=ho
  obtain⟨d8,_,_,d1,d2,d3,d4,d5,d6,d7⟩:=ho'
  have lens:=jY ho v
  have lk:=v.ix.1.1
  rcases IU v hk with⟨i,ep,hi,hu,ek⟩ | ⟨ep,hn⟩
  ·have c3:¬ dL T k<0:=by omega
   have hW:¬ Ld T k b r p:=fun n=>c3 n.2.2.1
   have hT:nX T.ps T.no T.h T.t (dL T k):=⟨UL v.od,by omega,by have:=v.sz.2.2.2.2.2;omega⟩
   have eR:xW T k b r p a=T.touch (dL T k):=by unfold xW;rw[if_pos ⟨c1,c2⟩,if_neg c3]
   unfold OU
   rw[hE,eR,if_neg hW,decide_eq_false hW]
   refine Aw T k b r p a _ ?_ ?_ ?_ ?_ ?_<;>dsimp only[Az,Rg,At,Tr.q,Tr.e,KX]
   ·intro g;rw[aI] at g;exact absurd c1 g
   ·intro _ g;rw[aI] at g;exact absurd c2 g
   ·intro _ _ g;rw[aP] at g;exact absurd g c3
   ·intro _ _ g;rw[aP] at g;exact absurd g c3
   ·intro _ _ _
    refine⟨⟨⟨ho,hk⟩,d3,d7,d5,d2,d1,d4,d6,ho,trivial⟩,?_⟩
    simp only[Vx,WC,if_pos hT];rfl
  ·by_cases c4:T.fr=-1
   ·have hW:Ld T k b r p:=⟨c1,c2,by omega,c4⟩
    have hkE:tkE T.nx T.us T.fr≠0:=by unfold tkE;rw[if_pos (RQ v.ar),if_pos c4];omega
    obtain⟨v1,ho1⟩:=Jm ho v c4
    have hn1:=Ot ho v c4 hn
    obtain⟨hF,i,A,ei,eA,hi,hu⟩:=oO v c4
    have et:T.t.toNat=i:=by omega
    have hg:eX (T.ks.getD i 0):=ho.2.1 i (by omega)
    obtain⟨g1,g2,g3,g4,g5,g6⟩:=yM ho1 v1 hk (by show((T.t.toNat:Nat):Int)≠-1;omega) hn1
    have lc:=UL v.od
    have tm:(i:Int)∈L:=by rw[eA,ei];simp
    have ps6:(T.ps.length:Int)=T.n:=v.sz.2.2.2.2.2
    have nx5:(T.nx.length:Int)=T.n:=v.sz.2.2.2.2.1
    have eR:xW T k b r p a=T.less.plus k b r p a:=by unfold xW;rw[if_pos ⟨c1,c2⟩,if_pos (by omega),if_pos c4]
    unfold OU
    rw[hE,eR,if_pos hW,decide_eq_true hW]
    have hla:nM T.ps T.no T.h T.t=i:=by unfold nM;rw[if_pos lc,if_neg (by omega)];exact ei
    have hpl:dL T (T.ks.getD (i:Int).toNat 0)=i:=by
     rw[Int.toNat_natCast]
     obtain⟨e1,e2⟩:=Bd v hg hi hu rfl
     unfold dL;rw[if_pos e1,e2]
    have hrm:yT T.ps T.no T.h T.t i:=⟨lc,⟨by omega,by omega⟩,(OG v.od (by omega) (by omega)).2 tm⟩
    have hgv:CJ T.nx T.us T.fr i:=⟨RQ v.ar,by omega,by omega,by rw[Int.toNat_natCast];exact hu⟩
    have hdp:IA T.kx T.px T.ux (T.ks.getD (i:Int).toNat 0):=by
     rw[Int.toNat_natCast]
     obtain⟨j,hj,uj,e1,e2⟩:=mV v hi hu
     refine⟨Ij v.ix,?_⟩
     have:=Zp v.ix hj uj
     rw[e1] at this
     rw[this];exact uj
    have hW1:T.less=T.without (T.ks.getD i 0) i:=by unfold Tb.less;rw[et]
    rw[hW1] at g1 g2 g3 g4 g5 g6 v1 ho1 ⊢
    have lens1:=jY ho1 v1
    obtain⟨o8,_,_,o1,o2,o3,o4,o5,o6,o7⟩:=ho1
    have q3:Kq T=(T.without (T.ks.getD i 0) i).ks:=by unfold Kq;rw[hla,hpl];rfl
    have q4:vC T=(T.without (T.ks.getD i 0) i).x1:=by unfold vC;rw[hla,hpl];rfl
    have q5:ve T=(T.without (T.ks.getD i 0) i).x2:=by unfold ve;rw[hla,hpl];rfl
    have q6:vg T=(T.without (T.ks.getD i 0) i).x3:=by unfold vg;rw[hla,hpl];rfl
    have q7:uU T=(T.without (T.ks.getD i 0) i).x4:=by unfold uU;rw[hla,hpl];rfl
    have q8:vz T=(T.without (T.ks.getD i 0) i).x5:=by unfold vz;rw[hla,hpl];rfl
    have q9:uT T=(T.without (T.ks.getD i 0) i).x6:=by unfold uT;rw[hla,hpl];rfl
    have q13:ny T=(T.without (T.ks.getD i 0) i).kx:=by unfold ny Cc;rw[hla,if_pos hdp];rfl
    have q14:wO T=(T.without (T.ks.getD i 0) i).px:=by unfold wO Cc;rw[hla,if_pos hdp];rfl
    have q16:pz T=(T.without (T.ks.getD i 0) i).ux:=by unfold pz Cc;rw[hla,if_pos hdp];rfl
    have q17:nI T=(T.without (T.ks.getD i 0) i).fr:=by unfold nI;rw[hla,hpl,if_pos hgv];rfl
    have q21:qR T=(T.without (T.ks.getD i 0) i).ps:=by unfold qR;rw[hla,hpl,if_pos hrm];rfl
    have q22:qV T=(T.without (T.ks.getD i 0) i).no:=by unfold qV;rw[hla,hpl,if_pos hrm];rfl
    have q23:lT T=(T.without (T.ks.getD i 0) i).nx:=by unfold lT;rw[hla,hpl,if_pos hgv];rfl
    have q24:sW T=(T.without (T.ks.getD i 0) i).h:=by unfold sW;rw[hla,hpl,if_pos hrm];rfl
    have q25:zo T=(T.without (T.ks.getD i 0) i).t:=by unfold zo;rw[hla,hpl,if_pos hrm];rfl
    have q26:nD T=(T.without (T.ks.getD i 0) i).us:=by unfold nD;rw[hla,hpl,if_pos hgv];rfl
    have q30:fC T=(T.without (T.ks.getD i 0) i).fr:=by unfold fC;rw[q23,q26,q17,hla,hpl,if_pos g1,if_pos hgv];rfl
    have qf:(T.without (T.ks.getD i 0) i).fr=(i:Int):=rfl
    have hg':eX (T.ks.getD (i:Int).toNat 0):=by rw[Int.toNat_natCast];exact hg
    have qk:(T.without (T.ks.getD i 0) i).n=T.n:=rfl
    refine Aw T k b r p a _ ?_ ?_ ?_ ?_ ?_<;>dsimp only[Az,Rg,At,Tr.q,Tr.e,KX]
    ·intro g;rw[aI] at g;exact absurd c1 g
    ·intro _ g;rw[aI] at g;exact absurd c2 g
    ·intro _ _ _ _
     simp only[I9,Xq,WW,Yj,VS,WL,XF,WO,q3,q4,q5,q6,q7,q8,q9,q13,q14,q16,q17,q21,q22,q23,q24,q25,q26,q30,hla,hpl,if_pos g1,if_pos g3,if_pos g4,if_pos hgv]
     refine⟨?_,?_⟩
     ·(repeat' (first | assumption | apply And.intro))<;>first | exact trivial | rfl | ((try refine @decide_eq_true _ _ ?_);first | omega | (simp only[af,ay.len,List.length_set,qf,Int.toNat_natCast]<;>omega))
     ·rw[et,Int.toNat_natCast];rfl
    ·intro _ _ _ g;rw[aQ] at g;exact absurd g hkE
    ·intro _ _ g;rw[aX] at g;omega
   ·have hW:¬ Ld T k b r p:=fun n=>c4 n.2.2.2
    obtain⟨g1,g2,g3,g4,g5,g6⟩:=yM ho v hk c4 hn
    have eR:xW T k b r p a=T.plus k b r p a:=by unfold xW;rw[if_pos ⟨c1,c2⟩,if_pos (by omega),if_neg c4]
    unfold OU
    rw[hE,eR,if_neg hW,decide_eq_false hW]
    refine Aw T k b r p a _ ?_ ?_ ?_ ?_ ?_<;>dsimp only[Az,Rg,At,Tr.q,Tr.e,KX]
    ·intro g;rw[aI] at g;exact absurd c1 g
    ·intro _ g;rw[aI] at g;exact absurd c2 g
    ·intro _ _ _ g;rw[aI] at g;exact absurd g2 g
    ·intro _ _ _ _
     simp only[I9,aeL,adC,Xm,XK,XH,Yg,Wu,if_pos g1,if_pos g3,if_pos g4]
     refine⟨?_,rfl⟩
     (repeat' (first | assumption | apply And.intro))<;>first | exact trivial | rfl | ((try refine @decide_eq_true _ _ ?_);first | omega | (simp only[af,ay.len,List.length_set]<;>omega))
    ·intro _ _ g;rw[aX] at g;omega
 ·have hW:¬ Ld T k b r p:=fun n=>c ⟨n.1,n.2.1⟩
  unfold xW OU
  rw[if_neg c,if_neg hW,decide_eq_false hW]
  refine bf (bH.aS (.cons aac (.refl _))) ?_
  unfold usE
  refine Aw T k b r p a _ ?_ ?_ ?_ ?_ ?_<;>dsimp only[Az,Rg,At,Tr.q,Tr.e,KX]
  ·intro g;rw[aI] at g;exact⟨⟨ho,trivial⟩,by rw[if_neg g]⟩
  ·intro g g2;rw[aQ] at g;exact⟨⟨ho,trivial⟩,by rw[if_pos g]⟩
  ·intro g g2;rw[aQ] at g g2;exact absurd ⟨g,g2⟩ c
  ·intro g g2;rw[aQ] at g g2;exact absurd ⟨g,g2⟩ c
  ·intro g g2;rw[aQ] at g g2;exact absurd ⟨g,g2⟩ c
noncomputable section
def usC:List D→Option (D×List Prop)
 |[.agg [.v (.int .i64 n), .rc [.ints .u32 ks], .rc [.ints .i64 x1, .ints .i64 x2, .ints .i64 x3, .ints .i64 x4, .ints .i64 x5, .ints .u64 x6], .rc [.ints .i64 nx], .rc [.bools us], .v (.int .i64 fr), .rc [.ints .u32 kx, .ints .i64 px, .bools ux], .rc [.ints .i64 ps], .rc [.ints .i64 no], .v (.int .i64 h), .v (.int .i64 t)], .v (.int .u32 k), .agg [.v (.int .i64 b), .v (.int .i64 r), .v (.int .i64 p)], .v (.int .u64 a)]=>some ((.aS [(xW ⟨n,ks,x1,x2,x3,x4,x5,x6,nx,us,fr,kx,px,ux,ps,no,h,t⟩ k b r p a).o,u32 (OU ⟨n,ks,x1,x2,x3,x4,x5,x6,nx,us,fr,kx,px,ux,ps,no,h,t⟩ k b r p),bo (decide (Ld ⟨n,ks,x1,x2,x3,x4,x5,x6,nx,us,fr,kx,px,ux,ps,no,h,t⟩ k b r p)),i64 (usE ⟨n,ks,x1,x2,x3,x4,x5,x6,nx,us,fr,kx,px,ux,ps,no,h,t⟩ b r p)]),[fZ ⟨n,ks,x1,x2,x3,x4,x5,x6,nx,us,fr,kx,px,ux,ps,no,h,t⟩∧eX k])
 |_=>none
end
theorem alk (args res l) (h:usC args=some (res,l)) (hl:aJ l):Kl 24 args res:=by
 unfold usC at h;split at h
 ·obtain⟨rfl,rfl⟩:=dB h
  exact an8 _ _ _ _ _ _ hl.1
 ·cases h
def X15:aB:=aF 24 (.call usC) X14
theorem acu:bT Pg X15:=aj alk ads
def ahR (b r p a:Int):Tr D:= .e (ah .neq (iF b r p) 0) (.lf (D.aS [D.agg [i64 0,i64 0,i64 0,i64 0,i64 0,u64 0],i64 (iF b r p)])) (.lf (D.aS [D.agg [i64 b,i64 r,i64 p,i64 b,i64 0,u64 a],i64 0]))
theorem acW (b r p a:Int) (res:D) (h0:Az res (ahR b r p a) [true]) (h1:Az res (ahR b r p a) [false]):Kl 38 [D.agg [i64 b,i64 r,i64 p],u64 a] res:=fA (acu) (ahR b r p a) ⟨h0,h1⟩
def YM (b r p a:Int):Tr D:= .e (ah .neq (iF b r p) 0) (.lf (D.aS [D.agg [i64 0,i64 0,i64 0,i64 0,i64 0,u64 0],i64 (iF b r p)])) (.lf (D.aS [D.agg [i64 b,i64 r,i64 p,i64 b,i64 0,u64 a],i64 0]))
theorem abb (b r p a:Int) (res:D) (h0:Az res (YM b r p a) [true]) (h1:Az res (YM b r p a) [false]):Kl 40 [D.agg [i64 b,i64 r,i64 p],u64 a] res:=fA (acu) (YM b r p a) ⟨h0,h1⟩
def sN (b r p x:Int):Int:=if iF b r p=0 then x else 0
theorem aoh (b r p a:Int):Kl 38 [.agg [i64 b,i64 r,i64 p],u64 a] (.aS [.agg [i64 (sN b r p b),i64 (sN b r p r),i64 (sN b r p p),i64 (sN b r p b),i64 0,u64 (sN b r p a)],i64 (iF b r p)]):=by
 unfold sN
 refine acW b r p a _ ?_ ?_<;>dsimp only[Az,Rg,At,Tr.q,Tr.e,ahR]
 ·intro g;rw[aI] at g;exact⟨trivial,by simp only[if_neg g]⟩
 ·intro g;rw[aQ] at g;exact⟨trivial,by simp only[if_pos g];rw[g]⟩
theorem aj2 (b r p a:Int):Kl 40 [.agg [i64 b,i64 r,i64 p],u64 a] (.aS [.agg [i64 (sN b r p b),i64 (sN b r p r),i64 (sN b r p p),i64 (sN b r p b),i64 0,u64 (sN b r p a)],i64 (iF b r p)]):=by
 unfold sN
 refine abb b r p a _ ?_ ?_<;>dsimp only[Az,Rg,At,Tr.q,Tr.e,YM]
 ·intro g;rw[aI] at g;exact⟨trivial,by simp only[if_neg g]⟩
 ·intro g;rw[aQ] at g;exact⟨trivial,by simp only[if_pos g];rw[g]⟩
def flC:List D→Option (D×List Prop)
 |[.agg [.v (.int .i64 b), .v (.int .i64 r), .v (.int .i64 p)], .v (.int .u64 a)]=>some ((.aS [.agg [i64 (sN b r p b),i64 (sN b r p r),i64 (sN b r p p),i64 (sN b r p b),i64 0,u64 (sN b r p a)],i64 (iF b r p)]),[])
 |_=>none
theorem am4 (args res l) (h:flC args=some (res,l)) (hl:aJ l):Kl 38 args res:=by
 unfold flC at h;split at h
 ·obtain⟨rfl,rfl⟩:=dB h
  exact aoh _ _ _ _
 ·cases h
theorem aiQ (args res l) (h:flC args=some (res,l)) (hl:aJ l):Kl 40 args res:=by
 unfold flC at h;split at h
 ·obtain⟨rfl,rfl⟩:=dB h
  exact aj2 _ _ _ _
 ·cases h
noncomputable section
end
def ltT (T:Tb) (m:Nat) (i:Int) (l:List Int) (k:Nat) (out:List Int):Cs:=⟨TT.of [(1,D.ptr 32 0),(2,D.v (Value.slice none 0 0)),(3,D.sl 320 0 m ⟨1,0⟩),(5,D.sl 9001 0 k ⟨1,0⟩),(6,i64 i)],31,[],[(32,T.b),(320,BX.row [.ints .i64 l] false),(9001,BX.row [.ints .u32 out] false)],none,0⟩
def TK (T:Tb) (m:Nat) (i:Int) (l:List Int) (k:Nat) (out:List Int):Tr (Ex×Cs):= .e (ah .lss i ↑m) (.s (decide (i< ↑m)=true) (.s (decide (0≤i)=true) (.s (i.toNat<l.length) (.s (decide (l.getD i.toNat 0< ↑(T.ks.length))=true) (.s (decide (0≤l.getD i.toNat 0)=true) (.s (out.length=out.length) (.s (k=out.length) (.s ((k+1)*4≤17592186044416) (.lf (Ex.normal,(ltT T (m) (ai .add .i64 i 1) (l) (k+1) (out ++ [T.ks.getD (l.getD i.toNat 0).toNat 0])))))))))))) (.lf (Ex.exit 0,(ltT T (m) (i) (l) (k) (out))))
theorem Rf (T:Tb) (m:Nat) (i:Int) (l:List Int) (k:Nat) (out:List Int) (σ:St) (e:Ex) (h0:Rg 30 0 e σ (TK T m i l k out) [true]) (h1:Rg 30 0 e σ (TK T m i l k out) [false]):Rn 30 0 (ltT T m i l k out).abs e σ:=qH (acu) [[1,2,3,5,6]] [(32,32),(320,320),(9001,9001)] (TK T m i l k out) ⟨h0,h1⟩
def Vs (T:Tb):=ltT T (af [.ints .i64 (bM T.no T.h)]) 0 (bM T.no T.h) 0 []
def Xw (T:Tb) (k:Nat) (i:Int) (out:List Int):=ltT T (af [.ints .i64 (bM T.no T.h)]) i (bM T.no T.h) k out
def ab6 (T:Tb) (k:Nat) (i:Int) (out:List Int):Tr D:= .p (.k [Cast.nil 5 9001 1 [.ints .u32 []]]) (.p (.l [[1,2,3,5,6]] [(32,32),(320,320),(9001,9001)] (Vs T) (Ex.exit 0) (Xw T k i out)) (.s (T.no.length≤200) (.s (Rl 30 0 (Vs T).abs (Ex.exit 0) (Xw T k i out).abs) (.k ((ltT T (af [.ints .i64 (bM T.no T.h)]) 0 (bM T.no T.h) 0 []=ltT T (af [.ints .i64 (bM T.no T.h)]) 0 (bM T.no T.h) 0 [])) rfl (.s (k=out.length) (.lf (D.oc [.ints .u32 out])))))))
theorem abN (T:Tb) (k:Nat) (i:Int) (out:List Int) (res:D) (h0:Az res (ab6 T k i out) []):Kl 30 [T.d] res:=fA (acu) (ab6 T k i out) h0
def MO (T:Tb):List Int:=(bM T.no T.h).map fun i=>T.ks.getD i.toNat 0
def ltS (T:Tb):Prop:=T.no.length≤200∧(bM T.no T.h).length≤200∧∀ x∈bM T.no T.h,0≤x∧x<(T.ks.length:Int)
theorem aoK (T:Tb) (h:ltS T):Kl 30 [T.d] (ou (MO T)):=by
 obtain⟨h1,h2,h3⟩:=h
 unfold MO
 refine abN T (((bM T.no T.h).map fun i=>T.ks.getD i.toNat 0)).length (bM T.no T.h).length ((bM T.no T.h).map fun i=>T.ks.getD i.toNat 0) _ ?_<;>dsimp only[Az,Rg,At,Tr.q,Tr.e,ab6]
 refine⟨⟨rfl,au ?_,h1,trivial⟩,rfl⟩
 unfold Vs Xw
 generalize bM T.no T.h=l at *
 have z:=fF (P:=Pg) (F:=CallsD Pg) (b:=dh Pg 30 0) (fun i=>ltT T l.length (i:Int) l ((l.take i).map fun i=>T.ks.getD i.toNat 0).length ((l.take i).map fun i=>T.ks.getD i.toNat 0)) l.length (fun _=>True) (fun i hi _ σ e hr=>?_)
  (σ:=(ltT T l.length l.length l (l.map fun i=>T.ks.getD i.toNat 0).length (l.map fun i=>T.ks.getD i.toNat 0)).abs) (e:= .exit 0) ?_ l.length 0 (by omega) (fun _ _ _=>trivial)
 ·exact z
 ·have hx:l.getD i 0∈l:=by rw[List.getD_eq_getElem?_getD,List.getElem?_eq_getElem hi];exact List.getElem_mem hi
  have hb:=h3 _ hx
  refine Rf T _ i l _ _ σ e ?_ ?_<;>dsimp only[Az,Rg,At,Tr.q,Tr.e,RG,TK]
  ·intro _
   rw[Int.toNat_natCast,dW hi (by omega)]
   refine⟨?_,?_⟩
   ·(repeat' apply And.intro)<;>first | exact trivial | rfl | exact decide_eq_true hb.1 | exact decide_eq_true (by omega) | exact(aA hi).1 | exact(aA hi).2 | omega | (rw[List.length_map,List.length_take];omega)
   ·rw[acP _ l i hi] at hr
    rw[List.length_append] at hr
    exact hr
  ·intro g;rw[aX] at g;omega
 ·rw[List.take_length]
  refine Rf T _ l.length l _ _ _ _ ?_ ?_<;>dsimp only[Az,Rg,At,Tr.q,Tr.e,RG,TK]
  ·intro g;rw[aP] at g;omega
  ·intro _;exact⟨trivial,rfl,rfl⟩
theorem aj8 {T:Tb} {L F:List Int} (v:Inv T L F):ltS T∧MO T=L.map fun i=>T.ks.getD i.toNat 0:=by
 have hc:=(mJ v.od.2.2.2.2.1 (jV v.od)).1
 have l1:=jE (jV v.od)
 have l2:=v.od.2.2.1
 have l3:=v.od.2.1
 unfold ltS MO
 rw[hc]
 exact⟨⟨by omega,by omega,fun x hx=>⟨(jP v hx).1,by have:=(jP v hx).2.1;have:=v.sz.2.2.1;omega⟩⟩,rfl⟩
noncomputable section
def ltC:List D→Option (D×List Prop)
 |[.agg [.v (.int .i64 n), .rc [.ints .u32 ks], .rc [.ints .i64 x1, .ints .i64 x2, .ints .i64 x3, .ints .i64 x4, .ints .i64 x5, .ints .u64 x6], .rc [.ints .i64 nx], .rc [.bools us], .v (.int .i64 fr), .rc [.ints .u32 kx, .ints .i64 px, .bools ux], .rc [.ints .i64 ps], .rc [.ints .i64 no], .v (.int .i64 h), .v (.int .i64 t)]]=>some ((ou (MO ⟨n,ks,x1,x2,x3,x4,x5,x6,nx,us,fr,kx,px,ux,ps,no,h,t⟩)),[ltS ⟨n,ks,x1,x2,x3,x4,x5,x6,nx,us,fr,kx,px,ux,ps,no,h,t⟩])
 |_=>none
end
theorem akD (args res l) (h:ltC args=some (res,l)) (hl:aJ l):Kl 30 args res:=by
 unfold ltC at h;split at h
 ·obtain⟨rfl,rfl⟩:=dB h
  exact aoK _ hl.1
 ·cases h
def X18:aB:=aF 38 (.call flC) (aF 40 (.call flC) (aF 30 (.call ltC) X15))
theorem TY:bT Pg X18:=aj am4 (aj aiQ (aj akD acu))
def ajF (nx:List Int) (us:List Bool) (f:Int):Tr D:= .s (nx.length=nx.length) (.s (nx.length*8≤17592186044416) (.s (us.length=us.length) (.s (us.length*1≤17592186044416) (.q (us.length) (.q (nx.length) (.lf (D.agg [D.oc [.ints .i64 nx],D.oc [.bools us],i64 f])))))))
theorem ZI (nx:List Int) (us:List Bool) (f:Int) (res:D) (h0:Az res (ajF nx us f) []):Kl 77 [D.agg [ri nx,rb us,i64 f]] res:=fA (TY) (ajF nx us f) h0
def ajo (ps no:List Int) (h t:Int):Tr D:= .s ((ay.ints .i64 ps).len=af [.ints .i64 ps]) (.s (af [.ints .i64 ps]*8≤17592186044416) (.s ((ay.ints .i64 no).len=af [.ints .i64 no]) (.s (af [.ints .i64 no]*8≤17592186044416) (.q (af [.ints .i64 no]) (.q (af [.ints .i64 ps]) (.lf (D.agg [D.oc [.ints .i64 ps],D.oc [.ints .i64 no],i64 h,i64 t])))))))
theorem aa3 (ps no:List Int) (h t:Int) (res:D) (h0:Az res (ajo ps no h t) []):Kl 78 [D.agg [ri ps,ri no,i64 h,i64 t]] res:=fA (TY) (ajo ps no h t) h0
def UD (nx:List Int) (us:List Bool) (f:Int):Tr D:= .s (nx.length≤200) (.e (ah .neq (ku nx us f) 0) (.s (nx.length≤200) (.lf (D.aS [D.agg [bZ,bZ,i64 0],i64 0,i64 (ku nx us f)]))) (.s (nx.length≤200) (.e (ah .eql (((bM nx f).length:Int)) 0) (.lf (D.aS [D.agg [bZ,bZ,i64 0],i64 0,i64 18])) (.s (nx.length=nx.length) (.s (nx.length*8≤17592186044416) (.s (us.length=us.length) (.s (us.length*1≤17592186044416) (.s (decide (0<((bM nx f).length:Int))=true) (.q (true) (.s (0<(bM nx f).length) (.s (decide ((bM nx f).getD 0 0<(us.length:Int))=true) (.s (decide (0≤(bM nx f).getD 0 0)=true) (.s (us.length=us.length) (.s (((bM nx f).getD 0 0).toNat<us.length) (.s (decide (0<((bM nx f).length:Int))=true) (.q (true) (.s (0<(bM nx f).length) (.s (decide ((bM nx f).getD 0 0<(nx.length:Int))=true) (.s (decide (0≤(bM nx f).getD 0 0)=true) (.s (nx.length=nx.length) (.s (((bM nx f).getD 0 0).toNat<nx.length) (.e (ah .gtr (((bM nx f).length:Int)) 1) (.s (decide (1<((bM nx f).length:Int))=true) (.q (true) (.s (1<(bM nx f).length) (.s (decide (0<((bM nx f).length:Int))=true) (.q (true) (.s (0<(bM nx f).length) (.s (us.length=af [.bools (us.set ((bM nx f).getD 0 0).toNat true)]) (.s (nx.length=af [.ints .i64 (nx.set ((bM nx f).getD 0 0).toNat (-1))]) (.lf (D.aS [D.agg [D.oc [.ints .i64 (nx.set ((bM nx f).getD 0 0).toNat (-1))],D.oc [.bools (us.set ((bM nx f).getD 0 0).toNat true)],i64 ((bM nx f).getD 1 0)],i64 ((bM nx f).getD 0 0),i64 0])))))))))) (.s (decide (0<((bM nx f).length:Int))=true) (.q (true) (.s (0<(bM nx f).length) (.s (us.length=af [.bools (us.set ((bM nx f).getD 0 0).toNat true)]) (.s (nx.length=af [.ints .i64 (nx.set ((bM nx f).getD 0 0).toNat (-1))]) (.lf (D.aS [D.agg [D.oc [.ints .i64 (nx.set ((bM nx f).getD 0 0).toNat (-1))],D.oc [.bools (us.set ((bM nx f).getD 0 0).toNat true)],i64 (-1)],i64 ((bM nx f).getD 0 0),i64 0])))))))))))))))))))))))))))))
theorem JR (nx:List Int) (us:List Bool) (f:Int) (res:D) (h0:Az res (UD nx us f) [true]) (h1:Az res (UD nx us f) [false,true]) (h2:Az res (UD nx us f) [false,false,true]) (h3:Az res (UD nx us f) [false,false,false]):Kl 91 [D.agg [ri nx,rb us,i64 f]] res:=fA (TY) (UD nx us f) ⟨h0,fun e0=>⟨h1 e0,fun e1=>⟨h2 e0 e1,h3 e0 e1⟩⟩⟩
def LD (nx:List Int) (us:List Bool) (f p:Int):Tr D:= .s (nx.length≤200) (.e (ah .neq (ku nx us f) 0) (.s (nx.length≤200) (.lf (D.aS [D.agg [bZ,bZ,i64 0],i64 (ku nx us f)]))) (.e (ah .lss p 0) (.p (.c 4) (.lf (D.aS [D.agg [bZ,bZ,i64 0],i64 2]))) (.p (.c 3) (.e (ah .geq p (us.length:Int)) (.lf (D.aS [D.agg [bZ,bZ,i64 0],i64 2])) (.s (decide (p<(us.length:Int))=true) (.s (decide (0≤p)=true) (.e (!us.getD p.toNat false) (.lf (D.aS [D.agg [bZ,bZ,i64 0],i64 36])) (.s (nx.length=nx.length) (.s (nx.length*8≤17592186044416) (.s (us.length=us.length) (.s (us.length*1≤17592186044416) (.s (decide (p<(us.length:Int))=true) (.s (decide (0≤p)=true) (.s (us.length=us.length) (.s (p.toNat<us.length) (.s (decide (p<(nx.length:Int))=true) (.s (decide (0≤p)=true) (.s (nx.length=nx.length) (.s (p.toNat<nx.length) (.s (us.length=af [.bools (us.set p.toNat false)]) (.s (nx.length=af [.ints .i64 (nx.set p.toNat f)]) (.lf (D.aS [D.agg [D.oc [.ints .i64 (nx.set p.toNat f)],D.oc [.bools (us.set p.toNat false)],i64 p],i64 0])))))))))))))))))))))))
theorem BB (nx:List Int) (us:List Bool) (f p:Int) (res:D) (h0:Az res (LD nx us f p) [true]) (h1:Az res (LD nx us f p) [false,true]) (h2:Az res (LD nx us f p) [false,false,true]) (h3:Az res (LD nx us f p) [false,false,false,true]) (h4:Az res (LD nx us f p) [false,false,false,false]):Kl 149 [D.agg [ri nx,rb us,i64 f],i64 p] res:=fA (TY) (LD nx us f p) ⟨h0,fun e0=>⟨h1 e0,fun e1=>⟨h2 e0 e1,fun e2=>⟨h3 e0 e1 e2,h4 e0 e1 e2⟩⟩⟩⟩
def aeI (nx:List Int) (us:List Bool) (f:Int):Tr D:= .s (nx.length≤200) (.e (ah .neq (ku nx us f) 0) (.s (nx.length≤200) (.lf (D.aS [i64 0,i64 0,i64 (ku nx us f)]))) (.s (nx.length≤200) (.lf (D.aS [i64 (ai .sub .i64 (us.length:Int) ((bM nx f).length:Int)),i64 ((bM nx f).length:Int),i64 0]))))
theorem Q8 (nx:List Int) (us:List Bool) (f:Int) (res:D) (h0:Az res (aeI nx us f) [true]) (h1:Az res (aeI nx us f) [false]):Kl 89 [D.agg [ri nx,rb us,i64 f]] res:=fA (TY) (aeI nx us f) ⟨h0,h1⟩
theorem aea (nx:List Int) (us:List Bool) (f:Int):ku nx us f=0∨ku nx us f=8:=by
 unfold ku;(repeat' split)<;>first | exact .inl rfl | exact .inr rfl
theorem aiF (nx:List Int) (us:List Bool) (f:Int):rq nx us f=0∨rq nx us f=8:=by
 unfold rq;(repeat' split)<;>first | exact .inl rfl | exact .inr rfl
theorem Cb (nx:List Int) (us:List Bool) (f:Int):ku nx us f=rq nx us f:=by
 have:=amM nx us f
 rcases aea nx us f with a | a<;>rcases aiF nx us f with b | b<;>omega
theorem am0 (nx:List Int) (us:List Bool) (f:Int) (h:nx.length≤200∧us.length≤200):Kl 77 [.agg [ri nx,rb us,i64 f]] (.agg [oi nx,ob us,i64 f]):=
 ZI nx us f _ ⟨⟨by omega,rfl,by omega,rfl,trivial⟩,rfl⟩
theorem amQ (ps no:List Int) (h t:Int) (hl:ps.length≤200∧no.length≤200):Kl 78 [.agg [ri ps,ri no,i64 h,i64 t]] (.agg [oi ps,oi no,i64 h,i64 t]):=
 aa3 ps no h t _ ⟨⟨by show no.length*8≤_;omega,rfl,by show ps.length*8≤_;omega,rfl,trivial⟩,rfl⟩
theorem ao6 (nx:List Int) (us:List Bool) (f:Int) (h:us.length≤200∧nx.length≤200):Kl 91 [.agg [ri nx,rb us,i64 f]]
  (.aS [.agg [oi (if gu nx us f then nx.set f.toNat (-1) else[]),ob (if gu nx us f then us.set f.toNat true else[]),i64 (if gu nx us f then nx.getD f.toNat 0 else 0)],i64 (if gu nx us f then f else 0),i64 (tkE nx us f)]):=by
 by_cases c:rq nx us f=0
 ·have c':ku nx us f=0:=by rw[Cb];exact c
  obtain⟨F,a⟩:=Qw c
  have hF:=(mJ a.2.2.2.2.1 (Hu a)).1
  by_cases hf:f=-1
  ·have hO:¬ gu nx us f:=fun o=>o.2 hf
   have eF:F=[]:=by
    rcases Bg a.2.2.2.2.1 with⟨e,_⟩ | ⟨B,e⟩
    ·exact e
    ·have:=gU a.2.2.2.2.1 f (by rw[e];simp)
     omega
   simp only[if_neg hO]
   unfold tkE;rw[if_pos c,if_pos hf]
   refine bf (bH.aS (.cons (nilA 0) (.refl _))) ?_
   refine JR nx us f _ ?_ ?_ ?_ ?_<;>dsimp only[Az,Rg,At,Tr.q,Tr.e,UD]
   ·intro g;rw[aI] at g;exact absurd c' g
   ·intro _ _;exact⟨⟨h.2,h.2,trivial⟩,rfl⟩
   ·intro _ g;rw[bV,hF,eF] at g;exact absurd rfl g
   ·intro _ g;rw[bV,hF,eF] at g;exact absurd rfl g
  ·have hO:gu nx us f:=⟨c,hf⟩
   obtain⟨F',eF,f0,f1,_⟩:=F6 a hf
   have hs:Seg nx (nx.getD f.toNat 0) F' (-1):=by
    have:=a.2.2.2.2.1
    rw[eF] at this;exact this.2.2
   have l3:=a.2.2.1
   simp only[if_pos hO]
   unfold tkE;rw[if_pos c,if_neg hf]
   rw[eF] at hF
   have g0:(bM nx f).getD 0 0=f:=by rw[hF];rfl
   have gl:(bM nx f).length=F'.length+1:=by rw[hF];simp
   refine JR nx us f _ ?_ ?_ ?_ ?_<;>dsimp only[Az,Rg,At,Tr.q,Tr.e,UD]
   ·intro g;rw[aI] at g;exact absurd c' g
   ·intro _ g;rw[bY,gl] at g;omega
   ·intro _ _ g
    rw[fD,gl] at g
    have g1:(bM nx f).getD 1 0=nx.getD f.toNat 0:=by
     rw[hF]
     cases F' with
     |nil=>simp at g
     |cons x B=>exact hs.1.symm
    rw[g0,g1,gl]
    refine⟨?_,rfl⟩
    (repeat' apply And.intro)<;>first | exact trivial | rfl | omega | exact decide_eq_true (by omega) | (simp only[af,ay.len,List.length_set])
   ·intro _ _ g
    rw[iD,gl] at g
    have g1:nx.getD f.toNat 0=-1:=by
     cases F' with
     |nil=>exact hs
     |cons x B=>simp at g;omega
    rw[g0,g1,gl]
    refine⟨?_,rfl⟩
    (repeat' apply And.intro)<;>first | exact trivial | rfl | omega | exact decide_eq_true (by omega) | (simp only[af,ay.len,List.length_set])
 ·have c':ku nx us f≠0:=by rw[Cb];exact c
  have hO:¬ gu nx us f:=fun o=>c o.1
  simp only[if_neg hO]
  unfold tkE;rw[if_neg c,←Cb]
  refine bf (bH.aS (.cons (nilA 0) (.refl _))) ?_
  refine JR nx us f _ ?_ ?_ ?_ ?_<;>dsimp only[Az,Rg,At,Tr.q,Tr.e,UD]
  ·intro _;exact⟨⟨h.2,h.2,trivial⟩,rfl⟩
  ·intro g;rw[aQ] at g;exact absurd g c'
  ·intro g;rw[aQ] at g;exact absurd g c'
  ·intro g;rw[aQ] at g;exact absurd g c'
theorem an5 (nx:List Int) (us:List Bool) (f p:Int) (h:us.length≤200∧nx.length≤200):Kl 149 [.agg [ri nx,rb us,i64 f],i64 p]
  (.aS [.agg [oi (if CJ nx us f p then nx.set p.toNat f else[]),ob (if CJ nx us f p then us.set p.toNat false else[]),i64 (if CJ nx us f p then p else 0)],i64 (gvE nx us f p)]):=by
 by_cases c:rq nx us f=0
 ·have c':ku nx us f=0:=by rw[Cb];exact c
  have hl:=(adR c).2.2.1
  by_cases r:0≤p∧p<(nx.length:Int)
  ·have d1:decide (0≤p)=true:=decide_eq_true r.1
   have d2:decide (p<(us.length:Int))=true:=decide_eq_true (by omega)
   have d3:decide (p<(nx.length:Int))=true:=decide_eq_true r.2
   by_cases u:us.getD p.toNat false=true
   ·have hO:CJ nx us f p:=⟨c,r.1,r.2,u⟩
    simp only[if_pos hO]
    unfold gvE;rw[if_pos c,if_pos r,if_pos u]
    refine BB nx us f p _ ?_ ?_ ?_ ?_ ?_<;>dsimp only[Az,Rg,At,Tr.q,Tr.e,LD]
    ·intro g;rw[aI] at g;exact absurd c' g
    ·intro _ g;rw[aP] at g;omega
    ·intro _ _ g;rw[dV] at g;omega
    ·intro _ _ _ g;rw[u] at g;cases g
    ·intro _ _ _ _
     refine⟨?_,rfl⟩
     (repeat' apply And.intro)<;>first | exact trivial | rfl | assumption | omega | (simp only[af,ay.len,List.length_set])
   ·have hO:¬ CJ nx us f p:=fun o=>u o.2.2.2
    simp only[if_neg hO]
    unfold gvE;rw[if_pos c,if_pos r,if_neg u]
    refine bf (bH.aS (.cons (nilA 0) (.refl _))) ?_
    refine BB nx us f p _ ?_ ?_ ?_ ?_ ?_<;>dsimp only[Az,Rg,At,Tr.q,Tr.e,LD]
    ·intro g;rw[aI] at g;exact absurd c' g
    ·intro _ g;rw[aP] at g;omega
    ·intro _ _ g;rw[dV] at g;omega
    ·intro _ _ _ _;exact⟨⟨d1,d2,h.2,trivial⟩,rfl⟩
    ·intro _ _ _ g;simp at g;simp[g] at u
  ·have hO:¬ CJ nx us f p:=fun o=>r ⟨o.2.1,o.2.2.1⟩
   simp only[if_neg hO]
   unfold gvE;rw[if_pos c,if_neg r]
   refine bf (bH.aS (.cons (nilA 0) (.refl _))) ?_
   refine BB nx us f p _ ?_ ?_ ?_ ?_ ?_<;>dsimp only[Az,Rg,At,Tr.q,Tr.e,LD]
   ·intro g;rw[aI] at g;exact absurd c' g
   ·intro _ _;exact⟨⟨h.2,trivial⟩,rfl⟩
   ·intro _ _ _;exact⟨⟨h.2,trivial⟩,rfl⟩
   ·intro _ g g2;rw[aX] at g;rw[dS] at g2;exact absurd ⟨g,by omega⟩ r
   ·intro _ g g2;rw[aX] at g;rw[dS] at g2;exact absurd ⟨g,by omega⟩ r
 ·have c':ku nx us f≠0:=by rw[Cb];exact c
  have hO:¬ CJ nx us f p:=fun o=>c o.1
  simp only[if_neg hO]
  unfold gvE;rw[if_neg c,←Cb]
  refine bf (bH.aS (.cons (nilA 0) (.refl _))) ?_
  refine BB nx us f p _ ?_ ?_ ?_ ?_ ?_<;>dsimp only[Az,Rg,At,Tr.q,Tr.e,LD]
  ·intro _;exact⟨⟨h.2,h.2,trivial⟩,rfl⟩
  ·intro g;rw[aQ] at g;exact absurd g c'
  ·intro g;rw[aQ] at g;exact absurd g c'
  ·intro g;rw[aQ] at g;exact absurd g c'
  ·intro g;rw[aQ] at g;exact absurd g c'
def c3U (nx:List Int) (us:List Bool) (f:Int):Int:=if rq nx us f=0 then(us.length:Int) - (bM nx f).length else 0
def c3F (nx:List Int) (us:List Bool) (f:Int):Int:=if rq nx us f=0 then((bM nx f).length:Int) else 0
theorem an6 (nx:List Int) (us:List Bool) (f:Int) (h:nx.length≤200):Kl 89 [.agg [ri nx,rb us,i64 f]] (.aS [i64 (c3U nx us f),i64 (c3F nx us f),i64 (rq nx us f)]):=by
 unfold c3U c3F
 by_cases c:rq nx us f=0
 ·have c':ku nx us f=0:=by rw[Cb];exact c
  obtain⟨F,a⟩:=Qw c
  have l1:=jE (Hu a)
  have hF:=(mJ a.2.2.2.2.1 (Hu a)).1
  have l3:=a.2.2.1
  have l4:=a.2.1
  rw[if_pos c,if_pos c,c]
  refine Q8 nx us f _ ?_ ?_<;>dsimp only[Az,Rg,At,Tr.q,Tr.e,aeI]
  ·intro g;rw[aI] at g;exact absurd c' g
  ·intro _
   refine⟨⟨h,h,trivial⟩,?_⟩
   have:ai .sub .i64 (us.length:Int) ((bM nx f).length:Int)=(us.length:Int) - (bM nx f).length:=by
    rw[dG,aY (by rw[hF];omega) (by rw[hF];omega)]
   rw[←this]
 ·have c':ku nx us f≠0:=by rw[Cb];exact c
  rw[if_neg c,if_neg c,←Cb]
  refine Q8 nx us f _ ?_ ?_<;>dsimp only[Az,Rg,At,Tr.q,Tr.e,aeI]
  ·intro _;exact⟨⟨h,h,trivial⟩,rfl⟩
  ·intro g;rw[aQ] at g;exact absurd g c'
theorem aha (args res l) (h:awC args=some (res,l)) (hl:aJ l):Kl 77 args res:=by
 unfold awC at h;split at h
 ·obtain⟨rfl,rfl⟩:=dB h;obtain⟨h0,_⟩:=hl
  exact am0 _ _ _ h0
 ·cases h
theorem ahh (args res l) (h:lwC args=some (res,l)) (hl:aJ l):Kl 78 args res:=by
 unfold lwC at h;split at h
 ·obtain⟨rfl,rfl⟩:=dB h;obtain⟨h0,_⟩:=hl
  exact amQ _ _ _ _ h0
 ·cases h
theorem aj6 (args res l) (h:tkC args=some (res,l)) (hl:aJ l):Kl 91 args res:=by
 unfold tkC at h;split at h
 ·obtain⟨rfl,rfl⟩:=dB h;obtain⟨h0,_⟩:=hl
  exact ao6 _ _ _ h0
 ·cases h
theorem akg (args res l) (h:gvC args=some (res,l)) (hl:aJ l):Kl 149 args res:=by
 unfold gvC at h;split at h
 ·obtain⟨rfl,rfl⟩:=dB h;obtain⟨h0,_⟩:=hl
  exact an5 _ _ _ _ h0
 ·cases h
def c3C:List D→Option (D×List Prop)
 |[.agg [.rc [.ints .i64 nx], .rc [.bools us], .v (.int .i64 f)]]=>some ((.aS [i64 (c3U nx us f),i64 (c3F nx us f),i64 (rq nx us f)]),[nx.length≤200])
 |_=>none
theorem amH (args res l) (h:c3C args=some (res,l)) (hl:aJ l):Kl 89 args res:=by
 unfold c3C at h;split at h
 ·obtain⟨rfl,rfl⟩:=dB h;obtain⟨h0,_⟩:=hl
  exact an6 _ _ _ h0
 ·cases h
def wiT (xs:List Int) (p i:Int) (k:Nat) (out:List Int):Cs:=⟨TT.of [(0,ri xs),(1,i64 p),(4,D.v (Value.slice none 0 0)),(5,D.sl 9001 0 k ⟨1,0⟩),(6,i64 i)],27,[],[(9001,BX.row [.ints .i64 out] false)],none,0⟩
def NR (xs:List Int) (p i:Int) (k:Nat) (out:List Int):Tr (Ex×Cs):= .e (ah .lss i (xs.length:Int)) (.s (decide (i<(xs.length:Int))=true) (.s (decide (0≤i)=true) (.e (ah .neq (xs.getD i.toNat 0) p) (.s (decide (i<(xs.length:Int))=true) (.s (decide (0≤i)=true) (.s (out.length=out.length) (.s (k=out.length) (.s ((k+1)*8≤17592186044416) (.lf (Ex.normal,(wiT (xs) (p) (ai .add .i64 i 1) (k+1) (out ++ [xs.getD i.toNat 0]))))))))) (.lf (Ex.normal,(wiT (xs) (p) (ai .add .i64 i 1) (k) (out))))))) (.lf (Ex.exit 0,(wiT (xs) (p) (i) (k) (out))))
theorem Ur (xs:List Int) (p i:Int) (k:Nat) (out:List Int) (σ:St) (e:Ex) (h0:Rg 145 0 e σ (NR xs p i k out) [true,true]) (h1:Rg 145 0 e σ (NR xs p i k out) [true,false]) (h2:Rg 145 0 e σ (NR xs p i k out) [false]):Rn 145 0 (wiT xs p i k out).abs e σ:=qH (TY) [[0,1,4,5,6]] [(9001,9001)] (NR xs p i k out) ⟨fun e0=>⟨h0 e0,h1 e0⟩,h2⟩
def adv (xs:List Int) (p i:Int) (k:Nat) (out:List Int):Tr D:= .p (.k [Cast.nil 5 9001 1 [.ints .i64 []]]) (.p (.l [[0,1,4,5,6]] [(9001,9001)] (wiT xs p 0 0 []) (Ex.exit 0) (wiT xs p i k out)) (.s (Rl 145 0 (wiT xs p 0 0 []).abs (Ex.exit 0) (wiT xs p i k out).abs) (.k ((wiT xs p 0 0 []=wiT xs p 0 0 [])) rfl (.s (k=out.length) (.lf (D.oc [.ints .i64 out]))))))
theorem ZN (xs:List Int) (p i:Int) (k:Nat) (out:List Int) (res:D) (h0:Az res (adv xs p i k out) []):Kl 145 [ri xs,i64 p] res:=fA (TY) (adv xs p i k out) h0
theorem OV (P:Int→Bool) {l:List Int} {i:Nat} (h:i<l.length):(l.take (i+1)).filter P=(l.take i).filter P ++ if P (l.getD i 0)=true then[l.getD i 0] else[]:=by
 rw[List.take_succ_eq_append_getElem h,List.filter_append]
 have:l.getD i 0=l[i]:=by rw[List.getD_eq_getElem?_getD,List.getElem?_eq_getElem h];rfl
 rw[this]
 cases e:P l[i]<;>simp[e]
theorem aog (xs:List Int) (p:Int) (hl:xs.length≤200):Kl 145 [ri xs,i64 p] (oi (wo xs p)):=by
 refine ZN xs p xs.length (wo xs p).length (wo xs p) _ ?_<;>dsimp only[Az,Rg,At,Tr.q,Tr.e,adv]
 refine⟨⟨rfl,au ?_,trivial⟩,rfl⟩
 have z:=fF (P:=Pg) (F:=CallsD Pg) (b:=dh Pg 145 0) (fun i=>wiT xs p (i:Int) (wo (xs.take i) p).length (wo (xs.take i) p)) xs.length (fun _=>True) (fun i hi _ σ e hr=>?_)
  (σ:=(wiT xs p xs.length (wo xs p).length (wo xs p)).abs) (e:= .exit 0) ?_ xs.length 0 (by omega) (fun _ _ _=>trivial)
 ·exact z
 ·unfold wo at hr
  rw[OV _ hi] at hr
  have hle:((xs.take i).filter fun x=>decide (x≠p)).length≤200:=by
   have:=List.length_filter_le (fun x=>decide (x≠p)) (xs.take i)
   rw[List.length_take] at this;omega
  have cast1:ai .add .i64 (i:Int) 1=((i+1:Nat):Int):=dW hi (by omega)
  unfold wo
  refine Ur xs p i _ _ σ e ?_ ?_ ?_<;>dsimp only[Az,Rg,At,Tr.q,Tr.e,RG,NR]
  ·intro _ g1
   rw[Int.toNat_natCast,aI] at g1
   rw[if_pos (decide_eq_true g1),List.length_append] at hr
   simp only[Int.toNat_natCast,cast1]
   exact⟨(by(repeat' apply And.intro)<;>first | exact trivial | rfl | exact hi | exact(aA hi).1 | exact(aA hi).2 | omega),hr⟩
  ·intro _ g1
   rw[Int.toNat_natCast,aQ] at g1
   rw[if_neg (by rw[decide_eq_true_eq];exact fun n=>n g1),List.append_nil] at hr
   simp only[Int.toNat_natCast,cast1]
   exact⟨(by(repeat' apply And.intro)<;>first | exact trivial | rfl | exact hi | exact(aA hi).1 | exact(aA hi).2 | omega),hr⟩
  ·intro g1;rw[aX] at g1;omega
 ·rw[List.take_length]
  refine Ur xs p xs.length _ _ _ _ ?_ ?_ ?_<;>dsimp only[Az,Rg,At,Tr.q,Tr.e,RG,NR]
  ·intro g1;rw[aP] at g1;omega
  ·intro g1;rw[aP] at g1;omega
  ·intro _;exact⟨trivial,rfl,rfl⟩
def wiC:List D→Option (D×List Prop)
 |[.rc [.ints .i64 xs], .v (.int .i64 p)]=>some ((oi (wo xs p)),[xs.length≤200])
 |_=>none
theorem alD (args res l) (h:wiC args=some (res,l)) (hl:aJ l):Kl 145 args res:=by
 unfold wiC at h;split at h
 ·obtain⟨rfl,rfl⟩:=dB h;obtain⟨h0,_⟩:=hl
  exact aog _ _ h0
 ·cases h
def X19:aB:=aF 77 (.call awC) (aF 78 (.call lwC) (aF 91 (.call tkC) (aF 149 (.call gvC) (aF 89 (.call c3C) (aF 145 (.call wiC) X18)))))
theorem Je:bT Pg X19:=aj aha (aj ahh (aj aj6 (aj akg (aj amH (aj alD TY)))))
def ptT (kx px:List Int) (ux:List Bool) (k p i:Int):Cs:=⟨TT.of [(1,u32 k),(2,i64 p),(6,D.v (Value.slice none 0 0)),(7,i64 0),(8,D.sl 960 0 kx.length ⟨3,0⟩),(9,i64 i)],48,[],[(960,BX.row [.ints .u32 kx, .ints .i64 px, .bools ux] false)],none,0⟩
def bhT (c k:Int) (b:Bool) (i:Int):Cs:=⟨TT.of [(0,i64 c),(2,i64 k),(6,bo b),(7,i64 i)],20,[],[],none,0⟩
def d4T (m:Nat) (e j:Int) (kx px:List Int) (ux:List Bool):Cs:=⟨TT.of [(4,D.v (Value.slice none 0 0)),(5,i64 0),(6,i64 e),(7,D.sl 672 0 m ⟨3,0⟩),(8,i64 j)],59,[],[(672,BX.row [.ints .u32 kx, .ints .i64 px, .bools ux] false)],none,0⟩
def Lr (T:Tb) (k o i:Int):Cs:=⟨TT.of [(1,u32 k),(2,D.ptr 64 0),(4,i64 o),(5,i64 i)],28,[],[(64,T.b)],none,0⟩
end TableS
end
