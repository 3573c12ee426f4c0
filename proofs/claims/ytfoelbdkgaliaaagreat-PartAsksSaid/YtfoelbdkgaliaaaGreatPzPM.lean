/- What the functions compute, and the law. No condition. -/
import Derived.Test.YtfoelbdkgaliaaaGreatPzVQ
set_option linter.unusedSectionVars false
set_option linter.unusedVariables false
set_option linter.unusedSimpArgs false
noncomputable section
namespace TableS
open Go Go.Dam Go.Proofs
set_option maxRecDepth 1000000
def Fq (ps no:List Int) (h t p:Int):Tr D:= .s (no.length≤200) (.d (ah .neq (lJ ps no h t) 0) (fun e0=> .p (.d true) (.p (.d true) (.s (no.length≤200) (.k _ e0 (.s (no.length≤200) (.k _ e0 (.s (no.length≤200) (.lf (D.aS [D.agg [bZ,bZ,i64 0,i64 0],i64 (lJ ps no h t)]))))))))) (fun e0=> .d (ah .lss p 0) (fun e1=> .p (.c 5) (.p (.d false) (.p (.d true) (.p (.c 4) (.s (no.length≤200) (.k _ e0 (.k _ e1 (.lf (D.aS [D.agg [bZ,bZ,i64 0,i64 0],i64 2]))))))))) (fun e1=> .p (.c 3) (.d (ah .geq p (ps.length:Int)) (fun e2=> .p (.c 0) (.p (.d false) (.p (.d false) (.p (.c 3) (.p (.d true) (.s (no.length≤200) (.k _ e0 (.k _ e1 (.k _ e2 (.lf (D.aS [D.agg [bZ,bZ,i64 0,i64 0],i64 2]))))))))))) (fun e2=> .p (.c 0) (.s (no.length≤200) (.s ((bM no h).length≤200) (.q (af [.ints .i64 (bM no h)]) (.s ((wo (bM no h) p).length=(wo (bM no h) p).length) (.q ((wo (bM no h) p).length) (.s ((1+(wo (bM no h) p).length)*8≤17592186044416) (.s (mdS ((ps.length:Int)) ([p] ++ wo (bM no h) p)) (.s (1+(wo (bM no h) p).length=af [.ints .i64 ([p] ++ wo (bM no h) p)]) (.q (af [.ints .i64 (zh ((ps.length:Int)).toNat ([p] ++ wo (bM no h) p) ([p] ++ wo (bM no h) p).length)]) (.q (af [.ints .i64 (Ad ((ps.length:Int)).toNat ([p] ++ wo (bM no h) p) ([p] ++ wo (bM no h) p).length)]) (.lf (D.aS [D.agg [D.oc [.ints .i64 (Ad ((ps.length:Int)).toNat ([p] ++ wo (bM no h) p) ([p] ++ wo (bM no h) p).length)],D.oc [.ints .i64 (zh ((ps.length:Int)).toNat ([p] ++ wo (bM no h) p) ([p] ++ wo (bM no h) p).length)],i64 (U9 ([p] ++ wo (bM no h) p) ([p] ++ wo (bM no h) p).length),i64 (IK ([p] ++ wo (bM no h) p) ([p] ++ wo (bM no h) p).length)],i64 0])))))))))))))))))
theorem Dc (ps no:List Int) (h t p:Int) (res:D) (h0:Az res (Fq ps no h t p) [true]) (h1:Az res (Fq ps no h t p) [false,true]) (h2:Az res (Fq ps no h t p) [false,false,true]) (h3:Az res (Fq ps no h t p) [false,false,false]):Kl 88 [D.agg [ri ps,ri no,i64 h,i64 t],i64 p] res:=fA (Je) (Fq ps no h t p) ⟨h0,fun e0=>⟨h1 e0,fun e1=>⟨h2 e0 e1,h3 e0 e1⟩⟩⟩
def zi (ps no:List Int) (h t p:Int):Tr D:= .s (no.length≤200) (.d (ah .neq (lJ ps no h t) 0) (fun e0=> .p (.d true) (.p (.d true) (.s (no.length≤200) (.k _ e0 (.s (no.length≤200) (.k _ e0 (.s (no.length≤200) (.lf (D.aS [D.agg [bZ,bZ,i64 0,i64 0],i64 (lJ ps no h t)]))))))))) (fun e0=> .d (ah .lss p 0) (fun e1=> .p (.c 5) (.p (.d false) (.p (.d true) (.p (.c 4) (.s (no.length≤200) (.k _ e0 (.k _ e1 (.lf (D.aS [D.agg [bZ,bZ,i64 0,i64 0],i64 2]))))))))) (fun e1=> .p (.c 3) (.d (ah .geq p (ps.length:Int)) (fun e2=> .p (.c 0) (.p (.d false) (.p (.d false) (.p (.c 3) (.p (.d true) (.s (no.length≤200) (.k _ e0 (.k _ e1 (.k _ e2 (.lf (D.aS [D.agg [bZ,bZ,i64 0,i64 0],i64 2]))))))))))) (fun e2=> .p (.c 0) (.s (no.length≤200) (.s ((bM no h).length≤200) (.q (af [.ints .i64 (bM no h)]) (.e (!inB (bM no h) p) (.lf (D.aS [D.agg [bZ,bZ,i64 0,i64 0],i64 6])) (.s ((bM no h).length≤200) (.q (af [.ints .i64 (bM no h)]) (.s (mdS ((ps.length:Int)) (wo (bM no h) p)) (.q ((wo (bM no h) p).length) (.q (af [.ints .i64 (zh ((ps.length:Int)).toNat (wo (bM no h) p) (wo (bM no h) p).length)]) (.q (af [.ints .i64 (Ad ((ps.length:Int)).toNat (wo (bM no h) p) (wo (bM no h) p).length)]) (.lf (D.aS [D.agg [D.oc [.ints .i64 (Ad ((ps.length:Int)).toNat (wo (bM no h) p) (wo (bM no h) p).length)],D.oc [.ints .i64 (zh ((ps.length:Int)).toNat (wo (bM no h) p) (wo (bM no h) p).length)],i64 (U9 (wo (bM no h) p) (wo (bM no h) p).length),i64 (IK (wo (bM no h) p) (wo (bM no h) p).length)],i64 0])))))))))))))))))
theorem yA (ps no:List Int) (h t p:Int) (res:D) (h0:Az res (zi ps no h t p) [true]) (h1:Az res (zi ps no h t p) [false,true]) (h2:Az res (zi ps no h t p) [false,false,true]) (h3:Az res (zi ps no h t p) [false,false,false,true]) (h4:Az res (zi ps no h t p) [false,false,false,false]):Kl 147 [D.agg [ri ps,ri no,i64 h,i64 t],i64 p] res:=fA (Je) (zi ps no h t p) ⟨h0,fun e0=>⟨h1 e0,fun e1=>⟨h2 e0 e1,fun e2=>⟨h3 e0 e1 e2,h4 e0 e1 e2⟩⟩⟩⟩
def anH (T:Tb):Tr D:= .s ((ay.ints .u32 T.ks).len=af [.ints .u32 T.ks]) (.s (af [.ints .u32 T.ks]*4≤17592186044416) (.s ((ay.ints .u64 T.x6).len=af [.ints .i64 T.x1, .ints .i64 T.x2, .ints .i64 T.x3, .ints .i64 T.x4, .ints .i64 T.x5, .ints .u64 T.x6]) (.s ((ay.ints .i64 T.x5).len=af [.ints .i64 T.x1, .ints .i64 T.x2, .ints .i64 T.x3, .ints .i64 T.x4, .ints .i64 T.x5, .ints .u64 T.x6]) (.s ((ay.ints .i64 T.x4).len=af [.ints .i64 T.x1, .ints .i64 T.x2, .ints .i64 T.x3, .ints .i64 T.x4, .ints .i64 T.x5, .ints .u64 T.x6]) (.s ((ay.ints .i64 T.x3).len=af [.ints .i64 T.x1, .ints .i64 T.x2, .ints .i64 T.x3, .ints .i64 T.x4, .ints .i64 T.x5, .ints .u64 T.x6]) (.s ((ay.ints .i64 T.x2).len=af [.ints .i64 T.x1, .ints .i64 T.x2, .ints .i64 T.x3, .ints .i64 T.x4, .ints .i64 T.x5, .ints .u64 T.x6]) (.s ((ay.ints .i64 T.x1).len=af [.ints .i64 T.x1, .ints .i64 T.x2, .ints .i64 T.x3, .ints .i64 T.x4, .ints .i64 T.x5, .ints .u64 T.x6]) (.s (af [.ints .i64 T.x1, .ints .i64 T.x2, .ints .i64 T.x3, .ints .i64 T.x4, .ints .i64 T.x5, .ints .u64 T.x6]*48≤17592186044416) (.s (T.nx.length≤200∧T.us.length≤200) (.s ((ay.bools T.ux).len=af [.ints .u32 T.kx, .ints .i64 T.px, .bools T.ux]) (.s ((ay.ints .i64 T.px).len=af [.ints .u32 T.kx, .ints .i64 T.px, .bools T.ux]) (.s ((ay.ints .u32 T.kx).len=af [.ints .u32 T.kx, .ints .i64 T.px, .bools T.ux]) (.s (af [.ints .u32 T.kx, .ints .i64 T.px, .bools T.ux]*24≤17592186044416) (.s (T.ps.length≤200∧T.no.length≤200) (.q (af [.ints .i64 T.no]) (.q (af [.ints .i64 T.ps]) (.q (af [.ints .u32 T.kx, .ints .i64 T.px, .bools T.ux]) (.q (af [.bools T.us]) (.q (af [.ints .i64 T.nx]) (.q (af [.ints .i64 T.x1, .ints .i64 T.x2, .ints .i64 T.x3, .ints .i64 T.x4, .ints .i64 T.x5, .ints .u64 T.x6]) (.q (af [.ints .u32 T.ks]) (.lf (D.agg [i64 T.n,D.oc [.ints .u32 T.ks],D.oc [.ints .i64 T.x1, .ints .i64 T.x2, .ints .i64 T.x3, .ints .i64 T.x4, .ints .i64 T.x5, .ints .u64 T.x6],D.oc [.ints .i64 T.nx],D.oc [.bools T.us],i64 T.fr,D.oc [.ints .u32 T.kx, .ints .i64 T.px, .bools T.ux],D.oc [.ints .i64 T.ps],D.oc [.ints .i64 T.no],i64 T.h,i64 T.t])))))))))))))))))))))))
theorem afo (T:Tb) (res:D) (h0:Az res (anH T) []):Kl 35 [T.d] res:=fA (Je) (anH T) h0
theorem adE (ps no:List Int) (h t:Int):lJ ps no h t=0∨lJ ps no h t=8:=by
 unfold lJ;split<;>first | exact .inl rfl | exact .inr rfl
theorem ahp (ps no:List Int) (h t:Int):pG ps no h t=0∨pG ps no h t=8:=by
 unfold pG;(repeat' split)<;>first | exact .inl rfl | exact .inr rfl
theorem LM (ps no:List Int) (h t:Int):lJ ps no h t=pG ps no h t:=by
 have:=al5 ps no h t
 rcases adE ps no h t with a | a<;>rcases ahp ps no h t with b | b<;>omega
theorem aj1 (ps no:List Int) (h t p:Int) (hn:no.length≤200):Kl 88 [.agg [ri ps,ri no,i64 h,i64 t],i64 p]
  (.aS [.agg [oi (if nX ps no h t p then toP ps no h p else[]),oi (if nX ps no h t p then toN ps no h p else[]),i64 (if nX ps no h t p then p else 0),i64 (if nX ps no h t p then Vl ps no h t p else 0)],i64 (toE ps no h t p)]):=by
 by_cases c:pG ps no h t=0
 ·have c':lJ ps no h t=0:=by rw[LM];exact c
  obtain⟨L,o⟩:=OQ c
  have hL:=(mJ o.2.2.2.2.1 (jV o)).1
  have l1:=jE (jV o)
  have l5:=o.2.1
  by_cases r:0≤p∧p<(ps.length:Int)
  ·have hO:nX ps no h t p:=⟨c,r⟩
   have w:=Ju o r.1 r.2
   obtain⟨m1,m2,m3,m4⟩:=adG w
   rw[BZ] at m1 m2
   have lw:=jE (jV w)
   rw[FZ,List.length_cons] at lw
   have hmem:∀ x∈p::wo L p,0≤x∧x<(ps.length:Int):=fun x hx=>by
    have:=gU w.2.2.2.2.1 x hx
    rw[FZ] at this
    have:=o.2.2.1
    omega
   simp only[if_pos hO]
   unfold toE;rw[if_pos c,if_pos r]
   refine Dc ps no h t p _ ?_ ?_ ?_ ?_<;>dsimp only[Az,Rg,At,Tr.q,Tr.e,Fq]
   ·intro g;rw[aI] at g;exact absurd c' g
   ·intro _ g;rw[aP] at g;omega
   ·intro _ _ g;rw[dV] at g;omega
   ·intro _ _ _
    rw[hL]
    refine⟨⟨?_,⟨by omega,by omega,by show(p::wo L p).length≤200;rw[List.length_cons];omega,hmem⟩,by omega,rfl,by omega,hn,hn,trivial⟩,?_⟩
    ·show 1+(wo L p).length=(p::wo L p).length;rw[List.length_cons];omega
    ·rw[Int.toNat_natCast]
     show _=D.aS [D.agg [oi (Ad ps.length (p::wo L p) (p::wo L p).length),oi (zh ps.length (p::wo L p) (p::wo L p).length),i64 (U9 (p::wo L p) (p::wo L p).length),i64 (IK (p::wo L p) (p::wo L p).length)],i64 0]
     rw[←m1,←m2,←m3,←m4]
  ·have hO:¬ nX ps no h t p:=fun o=>r o.2
   simp only[if_neg hO]
   unfold toE;rw[if_pos c,if_neg r]
   refine bf (bH.aS (.cons Xe (.refl _))) ?_
   refine Dc ps no h t p _ ?_ ?_ ?_ ?_<;>dsimp only[Az,Rg,At,Tr.q,Tr.e,Fq]
   ·intro g;rw[aI] at g;exact absurd c' g
   ·intro _ _;exact⟨⟨hn,hn,trivial⟩,rfl⟩
   ·intro _ _ _;exact⟨⟨hn,hn,trivial⟩,rfl⟩
   ·intro _ g g2;rw[aX] at g;rw[dS] at g2;exact absurd ⟨g,g2⟩ r
 ·have c':lJ ps no h t≠0:=by rw[LM];exact c
  have hO:¬ nX ps no h t p:=fun o=>c o.1
  simp only[if_neg hO]
  unfold toE;rw[if_neg c,←LM]
  refine bf (bH.aS (.cons Xe (.refl _))) ?_
  refine Dc ps no h t p _ ?_ ?_ ?_ ?_<;>dsimp only[Az,Rg,At,Tr.q,Tr.e,Fq]
  ·intro _;exact⟨⟨hn,hn,hn,hn,trivial⟩,rfl⟩
  ·intro g;rw[aQ] at g;exact absurd g c'
  ·intro g;rw[aQ] at g;exact absurd g c'
  ·intro g;rw[aQ] at g;exact absurd g c'
theorem am9 (ps no:List Int) (h t p:Int) (hn:no.length≤200):Kl 147 [.agg [ri ps,ri no,i64 h,i64 t],i64 p]
  (.aS [.agg [oi (if yT ps no h t p then yI ps no p else[]),oi (if yT ps no h t p then Ak ps no p else[]),i64 (if yT ps no h t p then Ht ps no h p else 0),i64 (if yT ps no h t p then JF ps no t p else 0)],i64 (rmE ps no h t p)]):=by
 by_cases c:pG ps no h t=0
 ·have c':lJ ps no h t=0:=by rw[LM];exact c
  obtain⟨L,o⟩:=OQ c
  have hL:=(mJ o.2.2.2.2.1 (jV o)).1
  have l1:=jE (jV o)
  have l5:=o.2.1
  by_cases r:0≤p∧p<(ps.length:Int)
  ·have hin:=OG o r.1 r.2
   by_cases q:p∈L
   ·have hO:yT ps no h t p:=⟨c,r,hin.2 q⟩
    have w:=Dv o q
    obtain⟨m1,m2,m3,m4⟩:=adG w
    rw[Gi] at m1 m2
    have lw:=jE (jV w)
    rw[Gx] at lw
    have hmem:∀ x∈wo L p,0≤x∧x<(ps.length:Int):=fun x hx=>by
     have:=gU w.2.2.2.2.1 x hx
     rw[Gx] at this
     have:=o.2.2.1
     omega
    simp only[if_pos hO]
    unfold rmE;rw[if_pos c,if_pos r,if_pos (hin.2 q)]
    refine yA ps no h t p _ ?_ ?_ ?_ ?_ ?_<;>dsimp only[Az,Rg,At,Tr.q,Tr.e,zi]
    ·intro g;rw[aI] at g;exact absurd c' g
    ·intro _ g;rw[aP] at g;omega
    ·intro _ _ g;rw[dV] at g;omega
    ·intro _ _ _ g;rw[hL] at g;unfold inB at g;simp[q] at g
    ·intro _ _ _ _
     rw[hL]
     refine⟨⟨⟨by omega,by omega,by omega,hmem⟩,by omega,by omega,hn,hn,trivial⟩,?_⟩
     rw[Int.toNat_natCast,←m1,←m2,←m3,←m4]
   ·have hO:¬ yT ps no h t p:=fun o=>q (hin.1 o.2.2)
    simp only[if_neg hO]
    unfold rmE;rw[if_pos c,if_pos r,if_neg (fun n=>q (hin.1 n))]
    refine bf (bH.aS (.cons Xe (.refl _))) ?_
    refine yA ps no h t p _ ?_ ?_ ?_ ?_ ?_<;>dsimp only[Az,Rg,At,Tr.q,Tr.e,zi]
    ·intro g;rw[aI] at g;exact absurd c' g
    ·intro _ g;rw[aP] at g;omega
    ·intro _ _ g;rw[dV] at g;omega
    ·intro _ _ _ _;exact⟨⟨by rw[hL];omega,hn,hn,trivial⟩,rfl⟩
    ·intro _ _ _ g;rw[hL] at g;unfold inB at g;simp[q] at g
  ·have hO:¬ yT ps no h t p:=fun o=>r o.2.1
   simp only[if_neg hO]
   unfold rmE;rw[if_pos c,if_neg r]
   refine bf (bH.aS (.cons Xe (.refl _))) ?_
   refine yA ps no h t p _ ?_ ?_ ?_ ?_ ?_<;>dsimp only[Az,Rg,At,Tr.q,Tr.e,zi]
   ·intro g;rw[aI] at g;exact absurd c' g
   ·intro _ _;exact⟨⟨hn,hn,trivial⟩,rfl⟩
   ·intro _ _ _;exact⟨⟨hn,hn,trivial⟩,rfl⟩
   ·intro _ g g2;rw[aX] at g;rw[dS] at g2;exact absurd ⟨g,g2⟩ r
   ·intro _ g g2;rw[aX] at g;rw[dS] at g2;exact absurd ⟨g,g2⟩ r
 ·have c':lJ ps no h t≠0:=by rw[LM];exact c
  have hO:¬ yT ps no h t p:=fun o=>c o.1
  simp only[if_neg hO]
  unfold rmE;rw[if_neg c,←LM]
  refine bf (bH.aS (.cons Xe (.refl _))) ?_
  refine yA ps no h t p _ ?_ ?_ ?_ ?_ ?_<;>dsimp only[Az,Rg,At,Tr.q,Tr.e,zi]
  ·intro _;exact⟨⟨hn,hn,hn,hn,trivial⟩,rfl⟩
  ·intro g;rw[aQ] at g;exact absurd g c'
  ·intro g;rw[aQ] at g;exact absurd g c'
  ·intro g;rw[aQ] at g;exact absurd g c'
  ·intro g;rw[aQ] at g;exact absurd g c'
theorem anM (T:Tb) (h:T.ks.length≤200∧kcS T.x1 T.x2 T.x3 T.x4 T.x5 T.x6∧T.nx.length≤200∧T.us.length≤200∧FM T.kx T.px T.ux∧T.ps.length≤200∧T.no.length≤200):Kl 35 [T.d] T.o:=by
 obtain⟨h1,h2,h3,h4,h5,h6,h7⟩:=h
 obtain⟨k1,k2,k3,k4,k5,k6⟩:=h2
 obtain⟨c1,c2,c3⟩:=h5
 refine afo T _ ⟨?_,rfl⟩
 (repeat' (first | assumption | apply And.intro))<;>first | exact trivial | rfl | (simp only[af,ay.len]<;>omega)
def toD:List D→Option (D×List Prop)
 |[.agg [.rc [.ints .i64 ps], .rc [.ints .i64 nx], .v (.int .i64 h), .v (.int .i64 t)], .v (.int .i64 p)]=>some ((.aS [.agg [oi (if nX ps nx h t p then toP ps nx h p else[]),oi (if nX ps nx h t p then toN ps nx h p else[]),i64 (if nX ps nx h t p then p else 0),i64 (if nX ps nx h t p then Vl ps nx h t p else 0)],i64 (toE ps nx h t p)]),[nx.length≤200])
 |_=>none
theorem anc (args res l) (h:toD args=some (res,l)) (hl:aJ l):Kl 88 args res:=by
 unfold toD at h;split at h
 ·obtain⟨rfl,rfl⟩:=dB h;obtain⟨h0,_⟩:=hl
  exact aj1 _ _ _ _ _ h0
 ·cases h
def rmD:List D→Option (D×List Prop)
 |[.agg [.rc [.ints .i64 ps], .rc [.ints .i64 nx], .v (.int .i64 h), .v (.int .i64 t)], .v (.int .i64 p)]=>some ((.aS [.agg [oi (if yT ps nx h t p then yI ps nx p else[]),oi (if yT ps nx h t p then Ak ps nx p else[]),i64 (if yT ps nx h t p then Ht ps nx h p else 0),i64 (if yT ps nx h t p then JF ps nx t p else 0)],i64 (rmE ps nx h t p)]),[nx.length≤200])
 |_=>none
theorem alb (args res l) (h:rmD args=some (res,l)) (hl:aJ l):Kl 147 args res:=by
 unfold rmD at h;split at h
 ·obtain⟨rfl,rfl⟩:=dB h;obtain⟨h0,_⟩:=hl
  exact am9 _ _ _ _ _ h0
 ·cases h
def TL (kx px:List Int) (ux:List Bool) (k p i:Int):Tr (Ex×Cs):= .s (decide (i< ↑kx.length)=true) (.s (decide (0≤i)=true) (.s (i.toNat<kx.length) (.e (ux.getD i.toNat false) (.q (false) (.lf (Ex.normal,(ptT (kx) (px) (ux) (k) (p) (ai .rem .i64 (ai .add .i64 i 1) 16))))) (.lf (Ex.exit 0,(ptT (kx) (px) (ux) (k) (p) (i)))))))
theorem Uf (kx px:List Int) (ux:List Bool) (k p i:Int) (σ:St) (e:Ex) (h0:Rg 92 0 e σ (TL kx px ux k p i) [true]) (h1:Rg 92 0 e σ (TL kx px ux k p i) [false]):Rn 92 0 (ptT kx px ux k p i).abs e σ:=qH (Je) [[1,2,6,7,8,9]] [(960,960)] (TL kx px ux k p i) ⟨h0,h1⟩
def vw (kx px:List Int) (ux:List Bool) (k p i:Int):Tr D:= .s (okI kx) (.e (ah .neq (lY kx px ux) 0) (.s (okI kx) (.lf (D.aS [bZ,i64 (lY kx px ux)]))) (.e (ah .lss p 0) (.p (.c 1) (.lf (D.aS [bZ,i64 2]))) (.p (.c 0) (.e (ah .geq p 16) (.lf (D.aS [bZ,i64 2])) (.s (kx.length≤200) (.e (ah .geq (su kx ux k) 0) (.lf (D.aS [bZ,i64 14])) (.s (kx.length≤200) (.e (ah .eql (↑(gq kx.length ux)) 12) (.lf (D.aS [bZ,i64 18])) (.p (.l [[1,2,6,7,8,9]] [(960,960)] (ptT kx px ux k p (cO k)) (Ex.exit 0) (ptT kx px ux k p i)) (.s (ux.length=kx.length) (.s (px.length=kx.length) (.s (kx.length=kx.length) (.s (kx.length*24≤17592186044416) (.s (eX k) (.s (Rl 92 0 (ptT kx px ux k p (cO k)).abs (Ex.exit 0) (ptT kx px ux k p i).abs) (.k ((ptT kx px ux k p (cO k)=ptT kx px ux k p (cO k))) rfl (.s (decide (i< ↑kx.length)=true) (.s (decide (0≤i)=true) (.s (ux.length=kx.length) (.s (px.length=kx.length) (.s (kx.length=kx.length) (.s (i.toNat<kx.length) (.s (kx.length=af [.ints .u32 (kx.set i.toNat k), .ints .i64 (px.set i.toNat p), .bools (ux.set i.toNat true)]) (.lf (D.aS [D.oc [.ints .u32 (kx.set i.toNat k), .ints .i64 (px.set i.toNat p), .bools (ux.set i.toNat true)],i64 0])))))))))))))))))))))))))
theorem rD (kx px:List Int) (ux:List Bool) (k p i:Int) (res:D) (h0:Az res (vw kx px ux k p i) [true]) (h1:Az res (vw kx px ux k p i) [false,true]) (h2:Az res (vw kx px ux k p i) [false,false,true]) (h3:Az res (vw kx px ux k p i) [false,false,false,true]) (h4:Az res (vw kx px ux k p i) [false,false,false,false,true]) (h5:Az res (vw kx px ux k p i) [false,false,false,false,false]):Kl 92 [cc kx px ux,u32 k,i64 p] res:=fA (Je) (vw kx px ux k p i) ⟨h0,fun e0=>⟨h1 e0,fun e1=>⟨h2 e0 e1,fun e2=>⟨h3 e0 e1 e2,fun e3=>⟨h4 e0 e1 e2 e3,h5 e0 e1 e2 e3⟩⟩⟩⟩⟩
def KA (c k:Int) (b:Bool) (i:Int):Tr (Ex×Cs):= .e (ah .eql i c) (.lf (Ex.ret,(bhT (c) (k) (true) (i)))) (.e (ah .eql i k) (.lf (Ex.ret,(bhT (c) (k) (false) (i)))) (.q (false) (.lf (Ex.normal,(bhT (c) (k) (b) (ai .rem .i64 (ai .add .i64 i 1) 16))))))
theorem Jf (c k:Int) (b:Bool) (i:Int) (σ:St) (e:Ex) (h0:Rg 170 0 e σ (KA c k b i) [true]) (h1:Rg 170 0 e σ (KA c k b i) [false,true]) (h2:Rg 170 0 e σ (KA c k b i) [false,false]):Rn 170 0 (bhT c k b i).abs e σ:=qH (Je) [[0,2,6,7]] [] (KA c k b i) ⟨h0,fun e0=>⟨h1 e0,h2 e0⟩⟩
def Iy (e:Int):=ai .rem .i64 (ai .add .i64 e 1) 16
def ajD (c e k:Int) (b:Bool) (i:Int):Tr D:= .p (.l [[0,2,6,7]] [] (bhT c k false (Iy e)) Ex.ret (bhT c k b i)) (.q (false) (.s (Rl 170 0 (bhT c k false (Iy e)).abs (Ex.ret) (bhT c k b i).abs) (.k ((bhT c k false (Iy e)=bhT c k false (Iy e))) rfl (.lf (bo b)))))
theorem aaq (c e k:Int) (b:Bool) (i:Int) (res:D) (h0:Az res (ajD c e k b i) []):Kl 170 [i64 c,i64 e,i64 k] res:=fA (Je) (ajD c e k b i) h0
theorem ae6 (kx px:List Int) (ux:List Bool):lY kx px ux=0∨lY kx px ux=8:=by
 unfold lY;(repeat' split)<;>first | exact .inl rfl | exact .inr rfl
theorem ajW {kx px:List Int} {ux:List Bool} (ho:okI kx) (hc:FM kx px ux):lY kx px ux=uw kx px ux:=by
 have:=aml ho hc
 rcases ae6 kx px ux with a | a<;>rcases Y3 kx px ux with b | b<;>omega
theorem ad8 {kx px:List Int} {ux:List Bool} (x:Ix kx px ux) {k:Int} (hk:eX k):(0≤su kx ux k↔ux.getD (dn kx ux k) false=true)∧(0≤su kx ux k→su kx ux k=(dn kx ux k:Int)):=by
 obtain⟨h1,_,h⟩:=yR x hk
 have l:=x.1.1
 have hlt:=dZ (p:=fun i=>ux.getD i false && kx.getD i 0 ==k) kx.length 0
 rcases h with⟨h2,h3⟩ | ⟨h2,h3⟩
 ·have e:su kx ux k=(dn kx ux k:Int):=by
   unfold su
   rw[l]
   refine uO 16 0 _ (by omega) (by omega) (by show(ux.getD (dn kx ux k) false && kx.getD (dn kx ux k) 0 ==k)=true;rw[h2,h3];simp) fun j _ hj=>?_
   cases uj:ux.getD j false with
   |false=>rfl
   |true=>
    rw[Bool.true_and]
    have:¬ kx.getD j 0=k:=fun e=>by have:=x.2.2.2.2.2.1 j _ (by omega) h1 uj h2 (by rw[e,h3]);omega
    simpa using this
  exact⟨⟨fun _=>h2,fun _=>by omega⟩,fun _=>e⟩
 ·have e:su kx ux k<0:=by
   unfold su
   rw[hlt]
   intro j _ hj
   show(ux.getD j false && kx.getD j 0 ==k)=false
   cases uj:ux.getD j false with
   |false=>rfl
   |true=>
    rw[Bool.true_and]
    have:=h3 j (by omega) uj
    simpa using this
  exact⟨⟨fun q=>by omega,fun q=>by rw[h2] at q;cases q⟩,fun q=>by omega⟩
theorem adL (kx px:List Int) (ux:List Bool) (k p:Int) (hx:kx.length=16):∀ (d i:Nat),i<16→d≤16→(∀ t,t<d→ux.getD ((i+t)%16) false=true)→ux.getD ((i+d)%16) false=false→
  Rn 92 0 (ptT kx px ux k p i).abs (.exit 0) (ptT kx px ux k p (((i+d)%16:Nat):Int)).abs
 |0,i,hi,_,_,hf=>by
  rw[Nat.add_zero,Nat.mod_eq_of_lt hi] at hf ⊢
  have b:=aA (n:=kx.length) (i:=i) (by omega)
  refine Uf kx px ux k p i _ _ ?_ ?_<;>dsimp only[Az,Rg,At,Tr.q,Tr.e,RG,TL]
  ·intro g;rw[Int.toNat_natCast,hf] at g;cases g
  ·intro _;exact⟨⟨by rw[Int.toNat_natCast];omega,b.1,b.2,trivial⟩,rfl,rfl⟩
 |d+1,i,hi,hd,ht,hf=>by
  have h0:=ht 0 (by omega)
  rw[Nat.add_zero,Nat.mod_eq_of_lt hi] at h0
  have b:=aA (n:=kx.length) (i:=i) (by omega)
  have ih:=adL kx px ux k p hx d ((i+1)%16) (by omega) (by omega) (fun t q=>by
   have:=ht (t+1) (by omega)
   rwa[show((i+1)%16+t)%16=(i+(t+1))%16 by omega]) (by rwa[show((i+1)%16+d)%16=(i+(d+1))%16 by omega])
  rw[show((i+1)%16+d)%16=(i+(d+1))%16 by omega] at ih
  refine Uf kx px ux k p i _ _ ?_ ?_<;>dsimp only[Az,Rg,At,Tr.q,Tr.e,RG,TL]
  ·intro _
   rw[CV i hi]
   exact⟨⟨by rw[Int.toNat_natCast];omega,b.1,b.2,trivial⟩,ih⟩
  ·intro g;rw[Int.toNat_natCast,h0] at g;cases g
theorem aoW (kx px:List Int) (ux:List Bool) (k p:Int) (h:okI kx∧eX k∧FM kx px ux):Kl 92 [cc kx px ux,u32 k,i64 p]
  (.aS [cco (if Aj kx px ux k p then kx.set (dn kx ux k) k else[]) (if Aj kx px ux k p then px.set (dn kx ux k) p else[]) (if Aj kx px ux k p then ux.set (dn kx ux k) true else[]),i64 (ppE kx px ux k p)]):=by
 obtain⟨ho,hk,hc⟩:=h
 have he:=ajW ho hc
 obtain⟨c0,c1,c2⟩:=hc
 by_cases c:uw kx px ux=0
 ·have c':lY kx px ux=0:=by rw[he];exact c
  have x:=QL ho ⟨c0,c1,c2⟩ c
  obtain⟨a1,a2⟩:=ad8 x hk
  have l:=x.1.1
  have hle:=x.2.1
  have nc:¬ (lY kx px ux≠0):=fun n=>n c'
  by_cases r:0≤p∧p<16
  ·by_cases u:ux.getD (dn kx ux k) false=true
   ·have hO:¬ Aj kx px ux k p:=fun o=>by rw[o.2.2.1] at u;cases u
    simp only[if_neg hO]
    unfold ppE;rw[if_pos c,if_pos r,if_pos u]
    refine bf (U6 14) ?_
    refine rD kx px ux k p 0 _ ?_ ?_ ?_ ?_ ?_ ?_<;>dsimp only[Az,Rg,At,Tr.q,Tr.e,vw]
    ·intro g;rw[aI] at g;exact absurd c' g
    ·intro _ g;rw[aP] at g;omega
    ·intro _ _ g;rw[dV] at g;omega
    ·intro _ _ _ _;exact⟨⟨by omega,ho,trivial⟩,rfl⟩
    ·intro _ _ _ g;rw[dS] at g;have:=a1.2 u;omega
    ·intro _ _ _ g;rw[dS] at g;have:=a1.2 u;omega
   ·have hu:ux.getD (dn kx ux k) false=false:=by simpa using u
    have hat:su kx ux k<0:=by
     rcases Int.lt_or_le (su kx ux k) 0 with q | q
     ·exact q
     ·exact absurd (a1.1 q) u
    by_cases n:gq kx.length ux<12
    ·have hO:Aj kx px ux k p:=⟨c,r,hu,n⟩
     obtain⟨b1,b2,_⟩:=yR x hk
     have hh:=wC hk
     have hb:=kC hk
     simp only[if_pos hO]
     unfold ppE;rw[if_pos c,if_pos r,if_neg u,if_pos n]
     have hrun:=adL kx px ux k p l (ds (hmN k) (dn kx ux k)) (hmN k) hh (by unfold ds;omega) b2 (by rw[show(hmN k+ds (hmN k) (dn kx ux k))%16=dn kx ux k by unfold ds;omega];exact hu)
     rw[show(hmN k+ds (hmN k) (dn kx ux k))%16=dn kx ux k by unfold ds;omega,show((hmN k:Nat):Int)=cO k by unfold hmN;omega] at hrun
     refine rD kx px ux k p (dn kx ux k) _ ?_ ?_ ?_ ?_ ?_ ?_<;>dsimp only[Az,Rg,At,Tr.q,Tr.e,vw]
     ·intro g;rw[aI] at g;exact absurd c' g
     ·intro _ g;rw[aP] at g;omega
     ·intro _ _ g;rw[dV] at g;omega
     ·intro _ _ _ g;rw[dV] at g;omega
     ·intro _ _ _ _ g;rw[bY] at g;omega
     ·intro _ _ _ _ _
      have b:=aA (n:=kx.length) (i:=dn kx ux k) (by omega)
      have hl:=au hrun
      rw[Int.toNat_natCast]
      refine⟨?_,rfl⟩
      (repeat' (first | assumption | apply And.intro))<;>first | exact trivial | rfl | exact b.1 | exact b.2 | omega | (simp only[af,ay.len,List.length_set])
    ·have hO:¬ Aj kx px ux k p:=fun o=>n o.2.2.2
     simp only[if_neg hO]
     unfold ppE;rw[if_pos c,if_pos r,if_neg u,if_neg n]
     refine bf (U6 18) ?_
     refine rD kx px ux k p 0 _ ?_ ?_ ?_ ?_ ?_ ?_<;>dsimp only[Az,Rg,At,Tr.q,Tr.e,vw]
     ·intro g;rw[aI] at g;exact absurd c' g
     ·intro _ g;rw[aP] at g;omega
     ·intro _ _ g;rw[dV] at g;omega
     ·intro _ _ _ g;rw[dV] at g;omega
     ·intro _ _ _ _ _;exact⟨⟨by omega,by omega,ho,trivial⟩,rfl⟩
     ·intro _ _ _ _ g;rw[bV] at g;rw[l] at g n;omega
  ·have hO:¬ Aj kx px ux k p:=fun o=>r o.2.1
   simp only[if_neg hO]
   unfold ppE;rw[if_pos c,if_neg r]
   refine bf (U6 2) ?_
   refine rD kx px ux k p 0 _ ?_ ?_ ?_ ?_ ?_ ?_<;>dsimp only[Az,Rg,At,Tr.q,Tr.e,vw]
   ·intro g;rw[aI] at g;exact absurd c' g
   ·intro _ _;exact⟨⟨ho,trivial⟩,rfl⟩
   ·intro _ _ _;exact⟨⟨ho,trivial⟩,rfl⟩
   ·intro _ g g2;rw[aX] at g;rw[dS] at g2;exact absurd ⟨g,g2⟩ r
   ·intro _ g g2;rw[aX] at g;rw[dS] at g2;exact absurd ⟨g,g2⟩ r
   ·intro _ g g2;rw[aX] at g;rw[dS] at g2;exact absurd ⟨g,g2⟩ r
 ·have c':lY kx px ux≠0:=by rw[he];exact c
  have hO:¬ Aj kx px ux k p:=fun o=>c o.1
  simp only[if_neg hO]
  unfold ppE;rw[if_neg c,←he]
  refine bf (U6 _) ?_
  refine rD kx px ux k p 0 _ ?_ ?_ ?_ ?_ ?_ ?_<;>dsimp only[Az,Rg,At,Tr.q,Tr.e,vw]
  ·intro _;exact⟨⟨ho,ho,trivial⟩,rfl⟩
  all_goals (intro g;rw[aQ] at g;exact absurd g c')
theorem aky (args res l) (h:ppC args=some (res,l)) (hl:aJ l):Kl 92 args res:=by
 unfold ppC at h;split at h
 ·obtain⟨rfl,rfl⟩:=dB h;obtain⟨h0,_⟩:=hl
  exact aoW _ _ _ _ _ h0
 ·cases h
def bhW (c k:Nat):Nat→Nat→Bool
 |0,_=>false
 |d+1,i=>if i=c then true else if i=k then false else bhW c k d ((i+1)%16)
theorem acZ (c k:Nat):∀ (D d i:Nat) (b:Bool),i<16→d<D→(i+d)%16=k→
  ∃ j:Int,Rn 170 0 (bhT c k b i).abs .ret (bhT c k (bhW c k D i) j).abs
 |0,d,i,b,_,h,_=>by omega
 |D+1,d,i,b,hi,hd,he=>by
  by_cases e1:i=c
  ·refine⟨i,?_⟩
   have:bhW c k (D+1) i=true:=by simp only[bhW,if_pos e1]
   rw[this]
   refine Jf c k b i _ _ ?_ ?_ ?_<;>dsimp only[Az,Rg,At,Tr.q,Tr.e,RG,KA]
   ·intro _;exact⟨trivial,rfl,rfl⟩
   ·intro g;rw[bV] at g;omega
   ·intro g;rw[bV] at g;omega
  ·by_cases e2:i=k
   ·refine⟨i,?_⟩
    have:bhW c k (D+1) i=false:=by simp only[bhW,if_neg e1,if_pos e2]
    rw[this]
    refine Jf c k b i _ _ ?_ ?_ ?_<;>dsimp only[Az,Rg,At,Tr.q,Tr.e,RG,KA]
    ·intro g;rw[bY] at g;omega
    ·intro _ _;exact⟨trivial,rfl,rfl⟩
    ·intro _ g;rw[bV] at g;omega
   ·have d0:d≠0:=fun q=>e2 (by rw[←he,q,Nat.add_zero,Nat.mod_eq_of_lt hi])
    obtain⟨j,r⟩:=acZ c k D (d - 1) ((i+1)%16) b (by omega) (by omega) (by omega)
    refine⟨j,?_⟩
    have:bhW c k (D+1) i=bhW c k D ((i+1)%16):=by simp only[bhW,if_neg e1,if_neg e2]
    rw[this]
    refine Jf c k b i _ _ ?_ ?_ ?_<;>dsimp only[Az,Rg,At,Tr.q,Tr.e,RG,KA]
    ·intro g;rw[bY] at g;omega
    ·intro _ g;rw[bY] at g;omega
    ·intro _ _;rw[CV i hi];exact⟨trivial,r⟩
def Qn (x:Int):Prop:=0≤x∧x<16
def bhV (c e k:Int):Bool:=bhW c.toNat k.toNat 16 ((e.toNat+1)%16)
theorem anT (c e k:Int) (h:Qn c∧Qn e∧Qn k):Kl 170 [i64 c,i64 e,i64 k] (bo (bhV c e k)):=by
 obtain⟨⟨c0,c1⟩,⟨e0,e1⟩,k0,k1⟩:=h
 obtain⟨cn,rfl⟩:∃ n:Nat,c=n:=⟨c.toNat,by omega⟩
 obtain⟨en,rfl⟩:∃ n:Nat,e=n:=⟨e.toNat,by omega⟩
 obtain⟨kn,rfl⟩:∃ n:Nat,k=n:=⟨k.toNat,by omega⟩
 unfold bhV
 simp only[Int.toNat_natCast]
 obtain⟨j,r⟩:=acZ cn kn 16 ((kn+16 - (en+1)%16)%16) ((en+1)%16) false (by omega) (by omega) (by omega)
 have r2:=au r
 refine aaq cn en kn (bhW cn kn 16 ((en+1)%16)) j _ ⟨⟨?_,trivial⟩,rfl⟩
 unfold Iy
 rw[CV en (by omega)]
 exact r2
theorem amo:∀ h:Nat,h<16→∀ i:Nat,i<16→∀ j:Nat,j<16→i≠j→bhW h j 16 ((i+1)%16)=!decide (ds i j≤(h+15 - i)%16):=by decide +kernel
def bhC:List D→Option (D×List Prop)
 |[.v (.int .i64 c), .v (.int .i64 e), .v (.int .i64 k)]=>some (bo (bhV c e k),[Qn c∧Qn e∧Qn k])
 |_=>none
theorem aly (args res l) (h:bhC args=some (res,l)) (hl:aJ l):Kl 170 args res:=by
 unfold bhC at h;split at h
 ·obtain⟨rfl,rfl⟩:=dB h;obtain⟨h0,_⟩:=hl
  exact anT _ _ _ h0
 ·cases h
def WH:D→Option Tb
 | .agg [.v (.int .i64 n), .rc [.ints .u32 ks], .rc [.ints .i64 x1, .ints .i64 x2, .ints .i64 x3, .ints .i64 x4, .ints .i64 x5, .ints .u64 x6], .rc [.ints .i64 nx], .rc [.bools us], .v (.int .i64 fr), .rc [.ints .u32 kx, .ints .i64 px, .bools ux], .rc [.ints .i64 ps], .rc [.ints .i64 no], .v (.int .i64 h), .v (.int .i64 t)]=>some ⟨n,ks,x1,x2,x3,x4,x5,x6,nx,us,fr,kx,px,ux,ps,no,h,t⟩
 |_=>none
theorem Hr {d:D} {T:Tb} (h:WH d=some T):d=T.d:=by
 unfold WH at h
 split at h
 ·simp only[Option.some.injEq] at h;subst h;rfl
 ·cases h
def akp (f:Tb→D×List Prop):List D→Option (D×List Prop)
 |[d]=>match WH d with
  |some T=>some (f T)
  |none=>none
 |_=>none
theorem agJ {f:Tb→D×List Prop} {g:FuncId} (hf:∀ T,aJ (f T).2→Kl g [T.d] (f T).1) (args res l) (h:akp f args=some (res,l)) (hl:aJ l):Kl g args res:=by
 unfold akp at h
 split at h
 next d=>
  split at h
  next T ht=>
   simp only[Option.some.injEq] at h
   have e:=Hr ht
   subst e
   have:=hf T (by rw[h];exact hl)
   rw[h] at this;exact this
  ·cases h
 ·cases h
def Lu (T:Tb):Prop:=T.ks.length≤200∧kcS T.x1 T.x2 T.x3 T.x4 T.x5 T.x6∧T.nx.length≤200∧T.us.length≤200∧FM T.kx T.px T.ux∧T.ps.length≤200∧T.no.length≤200
def an3:List D→Option (D×List Prop):=akp fun T=>(T.o,[Lu T])
theorem agY (args res l) (h:an3 args=some (res,l)) (hl:aJ l):Kl 35 args res:=agJ (f:=fun T=>(T.o,[Lu T])) (fun T h=>anM T h.1) args res l h hl
def X20:aB:=aF 35 (.call an3) (aF 170 (.call bhC) (aF 92 (.call ppC) (aF 88 (.call toD) (aF 147 (.call rmD) X19))))
theorem afU:bT Pg X20:=aj agY (aj aly (aj aky (aj anc (aj alb Je))))
def afb (f:Tb→Int→Int→Int→Int→D×List Prop):List D→Option (D×List Prop)
 |[d, .agg [.v (.int .i64 b), .v (.int .i64 r), .v (.int .i64 p)], .v (.int .u32 m)]=>match WH d with
  |some T=>some (f T b r p m)
  |none=>none
 |_=>none
theorem adl {f:Tb→Int→Int→Int→Int→D×List Prop} {g:FuncId} (hf:∀ T b r p m,aJ (f T b r p m).2→Kl g [T.d, .agg [i64 b,i64 r,i64 p],u32 m] (f T b r p m).1) (args res l) (h:afb f args=some (res,l)) (hl:aJ l):Kl g args res:=by
 unfold afb at h
 split at h
 next d b r p m=>
  split at h
  next T ht=>
   simp only[Option.some.injEq] at h
   have e:=Hr ht
   subst e
   have:=hf T b r p m (by rw[h];exact hl)
   rw[h] at this;exact this
  ·cases h
 ·cases h
def anK (T:Tb) (b r p m:Int):D×List Prop:=(bo (alB T b r p m),[alS T])
def aoo:List D→Option (D×List Prop):=afb anK
theorem aiU (args res l) (h:aoo args=some (res,l)) (hl:aJ l):Kl 56 args res:=adl (f:=anK) (fun T b r p m h=>akI T b r p m h.1) args res l h hl
def XP2:aB:=aF 56 (.call aoo) XP1
theorem al8:bT Pg XP2:=aj aiU zN
def Gs (Q:Pt) (o i:Int):Cs:=⟨TT.of [(1,D.ptr 32 0),(2,i64 o),(3,i64 i)],79,[],[(32,Q.b)],none,0⟩
def KF (Q:Pt) (i:Int):=ah .geq (Q.rv.getD (ai .sub .i64 i 1).toNat 0) (Q.rv.getD i.toNat 0)
def LZ (Q:Pt) (o i:Int):Tr (Ex×Cs):= .e (ah .lss i ↑(Q.rv.length)) (.s (decide (ai .sub .i64 i 1< ↑(Q.rv.length))=true) (.s (decide (0≤ai .sub .i64 i 1)=true) (.s (decide (i< ↑(Q.rv.length))=true) (.s (decide (0≤i)=true) (.e (KF Q i) (.lf (Ex.ret,(Gs Q (8) (i)))) (.lf (Ex.normal,(Gs Q (o) (ai .add .i64 i 1))))))))) (.lf (Ex.exit 0,(Gs Q (o) (i))))
theorem GY (Q:Pt) (o i:Int) (σ:St) (e:Ex) (h0:Rg 16 0 e σ (LZ Q o i) [true,true]) (h1:Rg 16 0 e σ (LZ Q o i) [true,false]) (h2:Rg 16 0 e σ (LZ Q o i) [false]):Rn 16 0 (Gs Q o i).abs e σ:=qH (al8) [[1,2,3]] [(32,32)] (LZ Q o i) ⟨fun e0=>⟨h0 e0,h1 e0⟩,h2⟩
def Yo (Q:Pt):=!(Q.ob ==Q.b0 && (Q.orr ==Q.r0 && (Q.op ==Q.p0 && true)))
def jZ (Q:Pt) (i:Int):Tr D:= .e (ah .geq Q.te 16) (.p (.c 14) (.lf (i64 8))) (.p (.c 2) (.e (!nV Q.b0 Q.r0 Q.p0 Q.b1 Q.r1 Q.p1 Q.b2 Q.r2 Q.p2) (.p (.c 10) (.lf (i64 8))) (.p (.c 2) (.e (ah .neq (qA Q.ob Q.orr Q.op Q.ov Q.oq) 0) (.p (.c 6) (.lf (i64 8))) (.p (.c 5) (.e (Yo Q) (.lf (i64 8)) (.s (fZ Q.U) (.e (ah .neq (xB Q.U) 0) (.p (.c 17) (.lf (i64 8))) (.p (.c 2) (.s (fZ Q.E) (.e (ah .neq (xB Q.E) 0) (.p (.c 13) (.lf (i64 8))) (.p (.c 5) (.s (alS Q.U) (.e (!alB Q.U Q.b1 Q.r1 Q.p1 4294967295) (.p (.c 6) (.lf (i64 8))) (.p (.c 5) (.s (alS Q.E) (.e (!alB Q.E Q.b2 Q.r2 Q.p2 65535) (.lf (i64 8)) (.e (ah .gtr (↑(Q.rv.length)) 8) (.lf (i64 8)) (.p (.l [[1,2,3]] [(32,32)] (Gs Q 0 1) (Ex.exit 0) (Gs Q 0 i)) (.s (Rl 16 0 (Gs Q 0 1).abs (Ex.exit 0) (Gs Q 0 i).abs) (.k ((Gs Q 0 1=Gs Q 0 1)) rfl (.lf (i64 0)))))))))))))))))))))))
theorem jA (Q:Pt) (i:Int) (res:D) (h0:Az res (jZ Q i) [true]) (h1:Az res (jZ Q i) [false,true]) (h2:Az res (jZ Q i) [false,false,true]) (h3:Az res (jZ Q i) [false,false,false,true]) (h4:Az res (jZ Q i) [false,false,false,false,true]) (h5:Az res (jZ Q i) [false,false,false,false,false,true]) (h6:Az res (jZ Q i) [false,false,false,false,false,false,true]) (h7:Az res (jZ Q i) [false,false,false,false,false,false,false,true]) (h8:Az res (jZ Q i) [false,false,false,false,false,false,false,false,true]) (h9:Az res (jZ Q i) [false,false,false,false,false,false,false,false,false]):Kl 16 [Q.d] res:=fA (al8) (jZ Q i) ⟨h0,fun e0=>⟨h1 e0,fun e1=>⟨h2 e0 e1,fun e2=>⟨h3 e0 e1 e2,fun e3=>⟨h4 e0 e1 e2 e3,fun e4=>⟨h5 e0 e1 e2 e3 e4,fun e5=>⟨h6 e0 e1 e2 e3 e4 e5,fun e6=>⟨h7 e0 e1 e2 e3 e4 e5 e6,fun e7=>⟨h8 e0 e1 e2 e3 e4 e5 e6 e7,h9 e0 e1 e2 e3 e4 e5 e6 e7⟩⟩⟩⟩⟩⟩⟩⟩⟩
def afn (Q:Pt):=!(Q.ob ==Q.b0 && (Q.orr ==Q.r0 && (Q.op ==Q.p0 && true)))
def uY (Q:Pt) (i:Int):Tr D:= .e (ah .geq Q.te 16) (.p (.c 14) (.lf (i64 8))) (.p (.c 2) (.e (!nV Q.b0 Q.r0 Q.p0 Q.b1 Q.r1 Q.p1 Q.b2 Q.r2 Q.p2) (.p (.c 10) (.lf (i64 8))) (.p (.c 2) (.e (ah .neq (qA Q.ob Q.orr Q.op Q.ov Q.oq) 0) (.p (.c 6) (.lf (i64 8))) (.p (.c 5) (.e (afn Q) (.lf (i64 8)) (.s (fZ Q.U) (.e (ah .neq (xB Q.U) 0) (.p (.c 17) (.lf (i64 8))) (.p (.c 2) (.s (fZ Q.E) (.e (ah .neq (xB Q.E) 0) (.p (.c 13) (.lf (i64 8))) (.p (.c 5) (.s (alS Q.U) (.e (!alB Q.U Q.b1 Q.r1 Q.p1 4294967295) (.p (.c 6) (.lf (i64 8))) (.p (.c 5) (.s (alS Q.E) (.e (!alB Q.E Q.b2 Q.r2 Q.p2 65535) (.lf (i64 8)) (.e (ah .gtr (↑(Q.rv.length)) 8) (.lf (i64 8)) (.p (.l [[1,2,3]] [(32,32)] (Gs Q 0 1) Ex.ret (Gs Q 8 i)) (.s (Rl 16 0 (Gs Q 0 1).abs (Ex.ret) (Gs Q 8 i).abs) (.k ((Gs Q 0 1=Gs Q 0 1)) rfl (.lf (i64 8)))))))))))))))))))))))
theorem abp (Q:Pt) (i:Int) (res:D) (h0:Az res (uY Q i) [true]) (h1:Az res (uY Q i) [false,true]) (h2:Az res (uY Q i) [false,false,true]) (h3:Az res (uY Q i) [false,false,false,true]) (h4:Az res (uY Q i) [false,false,false,false,true]) (h5:Az res (uY Q i) [false,false,false,false,false,true]) (h6:Az res (uY Q i) [false,false,false,false,false,false,true]) (h7:Az res (uY Q i) [false,false,false,false,false,false,false,true]) (h8:Az res (uY Q i) [false,false,false,false,false,false,false,false,true]) (h9:Az res (uY Q i) [false,false,false,false,false,false,false,false,false]):Kl 16 [Q.d] res:=fA (al8) (uY Q i) ⟨h0,fun e0=>⟨h1 e0,fun e1=>⟨h2 e0 e1,fun e2=>⟨h3 e0 e1 e2,fun e3=>⟨h4 e0 e1 e2 e3,fun e4=>⟨h5 e0 e1 e2 e3 e4,fun e5=>⟨h6 e0 e1 e2 e3 e4 e5,fun e6=>⟨h7 e0 e1 e2 e3 e4 e5 e6,fun e7=>⟨h8 e0 e1 e2 e3 e4 e5 e6 e7,h9 e0 e1 e2 e3 e4 e5 e6 e7⟩⟩⟩⟩⟩⟩⟩⟩⟩
theorem amh (Q:Pt) (hl:Q.rv.length≤200):
  ((∀ i,i<Q.rv.length→rP Q i=false)∧∃ j:Int,Rl 16 0 (Gs Q 0 1).abs (.exit 0) (Gs Q 0 j).abs)∨
  ((∃ i,i<Q.rv.length∧rP Q i=true)∧∃ j:Int,Rl 16 0 (Gs Q 0 1).abs .ret (Gs Q 8 j).abs):=by
 have pre:∀ i:Nat,0<i→i≤200→ai .sub .i64 (i:Int) 1=((i - 1:Nat):Int):=fun i h0 hi=>by rw[dG,aY (by omega) (by omega)];omega
 have step:∀ i,i<max 1 Q.rv.length→(1≤i∧rP Q i=false)→∀ (σ:St) (e:Ex),Rn 16 0 (Gs Q 0 ((i+1:Nat):Int)).abs e σ→Rn 16 0 (Gs Q 0 (i:Int)).abs e σ:=fun i hi' hp σ e hr=>by
  obtain⟨i1,hp⟩:=hp
  have hi:i<Q.rv.length:=by omega
  have hm:i - 1<Q.rv.length:=by omega
  rw[←dW hi hl] at hr
  have c0:KF Q i=false:=by
   unfold KF;rw[pre i i1 (by omega),Int.toNat_natCast,Int.toNat_natCast]
   unfold rP at hp;rw[decide_eq_true (by omega),Bool.true_and] at hp;exact hp
  refine GY Q 0 i σ e ?_ ?_ ?_<;>dsimp only[Az,Rg,At,Tr.q,Tr.e,RG,LZ]
  ·intro _ g;rw[c0] at g;cases g
  ·intro _ _;rw[pre i i1 (by omega)];exact⟨⟨(aA hi).1,(aA hi).2,(aA hm).1,(aA hm).2,trivial⟩,hr⟩
  ·intro g;rw[aX] at g;omega
 by_cases hx:∃ j,1≤j∧j<max 1 Q.rv.length∧¬ (1≤j∧rP Q j=false)
 ·obtain⟨j,j0,j1',j2,_,j4⟩:=lQ (fun i=>Gs Q 0 (i:Int)) (max 1 Q.rv.length) (fun i=>1≤i∧rP Q i=false) step (max 1 Q.rv.length - 1) 1 (by omega) hx
  have j1:j<Q.rv.length:=by omega
  have hm:j - 1<Q.rv.length:=by omega
  have hp:rP Q j=true:=by
   cases e:rP Q j with
   |true=>rfl
   |false=>exact absurd ⟨j0,e⟩ j2
  have c0:KF Q j=true:=by
   unfold KF;rw[pre j j0 (by omega),Int.toNat_natCast,Int.toNat_natCast]
   unfold rP at hp;rw[Bool.and_eq_true] at hp;exact hp.2
  refine .inr ⟨⟨j,j1,hp⟩,j,au (j4 _ _ (GY Q 0 j _ _ ?_ ?_ ?_))⟩
  ·intro _ _;rw[pre j j0 (by omega)];exact⟨⟨(aA j1).1,(aA j1).2,(aA hm).1,(aA hm).2,trivial⟩,rfl,rfl⟩
  ·intro _ g;rw[c0] at g;cases g
  ·intro g;rw[aX] at g;omega
 ·have hf:∀ i,1≤i→i<max 1 Q.rv.length→(1≤i∧rP Q i=false):=fun i h0 hi=>by
   refine⟨h0,?_⟩
   cases e:rP Q i with
   |false=>rfl
   |true=>exact absurd ⟨i,h0,hi,by simp[e]⟩ hx
  refine .inl ⟨fun i hi=>?_,((max 1 Q.rv.length:Nat):Int),au (fF (fun i=>Gs Q 0 (i:Int)) (max 1 Q.rv.length) (fun i=>1≤i∧rP Q i=false) step ?_ (max 1 Q.rv.length - 1) 1 (by omega) (fun j h0 hj=>hf j h0 hj))⟩
  ·by_cases e:1≤i
   ·exact(hf i e (by omega)).2
   ·unfold rP;rw[decide_eq_false (by omega),Bool.false_and]
  ·refine GY Q 0 (max 1 Q.rv.length:Nat) _ _ ?_ ?_ ?_<;>dsimp only[Az,Rg,At,Tr.q,Tr.e,RG,LZ]
   ·intro g;rw[aP] at g;omega
   ·intro g;rw[aP] at g;omega
   ·intro _;exact⟨trivial,rfl,rfl⟩
theorem ak9 {Q:Pt} (ho:fZ Q.U) (hs:alS Q.U) (e:KL Q Q.b1 Q.r1 Q.p1 Q.b2 Q.r2 Q.p2=true):alB Q.U Q.b1 Q.r1 Q.p1 4294967295=true↔∀ i,i<Q.U.us.length→uP Q i=false:=by
 obtain⟨⟨a1,a2,a3⟩,_,_⟩:=Oy e
 unfold alB
 rw[decide_eq_true_eq,dZ]
 have q:∀ i,i<Q.U.us.length→odd Q.U Q.b1 Q.r1 Q.p1 4294967295 i=uP Q i:=fun i hi=>by
  have hk:ah .gtr (Q.U.ks.getD i 0) 4294967295=false:=by
   rw[iD];have:=ho.2.1 i (by have:=hs.2.2.2;omega);unfold eX at this;omega
  unfold odd uP KL
  rw[hk,a1,a2,a3];simp
 constructor
 ·intro h i hi;rw[←q i hi];exact h i (by omega) (by omega)
 ·intro h j _ hj;rw[q j (by omega)];exact h j (by omega)
theorem al6 {Q:Pt} (e:KL Q Q.b1 Q.r1 Q.p1 Q.b2 Q.r2 Q.p2=true):alB Q.E Q.b2 Q.r2 Q.p2 65535=true↔∀ i,i<Q.E.us.length→eP Q i=false:=by
 obtain⟨⟨a1,a2,a3⟩,_,_⟩:=Oy e
 unfold alB
 rw[decide_eq_true_eq,dZ]
 have q:∀ i,odd Q.E Q.b2 Q.r2 Q.p2 65535 i=eP Q i:=fun i=>by
  unfold odd eP KL
  rw[a1,a2,a3];simp
 constructor
 ·intro h i hi;rw[←q i];exact h i (by omega) (by omega)
 ·intro h j _ hj;rw[q j];exact h j (by omega)
theorem amb (Q:Pt) (h:Nc Q):Kl 16 [Q.d] (i64 (sD Q)):=by
 obtain⟨hv,hU,hE,hl⟩:=h
 by_cases d0:Q.te<16
 case neg=>
  rw[iR (fun n=>d0 n.1)]
  have f0:ah .geq Q.te 16=true:=by rw[dV];omega
  refine jA Q 0 _ ?_ ?_ ?_ ?_ ?_ ?_ ?_ ?_ ?_ ?_<;>dsimp only[Az,Rg,At,Tr.q,Tr.e,jZ]
  all_goals simp only[f0,reduceCtorEq,false_implies,true_implies,implies_true,forall_const,true_and,and_true]
 have f0:ah .geq Q.te 16=false:=by rw[dS];omega
 cases f1:nV Q.b0 Q.r0 Q.p0 Q.b1 Q.r1 Q.p1 Q.b2 Q.r2 Q.p2
 case false=>
  rw[iR (fun n=>by rw[n.2.1] at f1;cases f1)]
  refine jA Q 0 _ ?_ ?_ ?_ ?_ ?_ ?_ ?_ ?_ ?_ ?_<;>dsimp only[Az,Rg,At,Tr.q,Tr.e,jZ]
  all_goals simp only[f0,f1,Bool.not_false,reduceCtorEq,false_implies,true_implies,implies_true,forall_const,true_and,and_true]
 by_cases d2:qA Q.ob Q.orr Q.op Q.ov Q.oq=0
 case neg=>
  rw[iR (fun n=>d2 n.2.2.1)]
  have f2:ah .neq (qA Q.ob Q.orr Q.op Q.ov Q.oq) 0=true:=by rw[aI];exact d2
  refine jA Q 0 _ ?_ ?_ ?_ ?_ ?_ ?_ ?_ ?_ ?_ ?_<;>dsimp only[Az,Rg,At,Tr.q,Tr.e,jZ]
  all_goals simp only[f0,f1,f2,Bool.not_true,reduceCtorEq,false_implies,true_implies,implies_true,forall_const,true_and,and_true]
 have f2:ah .neq (qA Q.ob Q.orr Q.op Q.ov Q.oq) 0=false:=by rw[aQ];exact d2
 have c0:Yo Q=!KL Q Q.b1 Q.r1 Q.p1 Q.b2 Q.r2 Q.p2:=by unfold Yo KL;simp
 have c0':afn Q=!KL Q Q.b1 Q.r1 Q.p1 Q.b2 Q.r2 Q.p2:=c0
 cases f5:KL Q Q.b1 Q.r1 Q.p1 Q.b2 Q.r2 Q.p2
 case false=>
  rw[iR (fun n=>by rw[n.2.2.2.2.2.1] at f5;cases f5)]
  refine jA Q 0 _ ?_ ?_ ?_ ?_ ?_ ?_ ?_ ?_ ?_ ?_<;>dsimp only[Az,Rg,At,Tr.q,Tr.e,jZ]
  all_goals simp only[f0,f1,f2,c0,f5,Bool.not_true,Bool.not_false,reduceCtorEq,false_implies,true_implies,implies_true,forall_const,true_and,and_true]
 by_cases d3:jL Q.U=0
 case neg=>
  rw[iR (fun n=>d3 n.2.2.2.1)]
  have f3:ah .neq (xB Q.U) 0=true:=by rw[aI,←pK hU];exact d3
  refine jA Q 0 _ ?_ ?_ ?_ ?_ ?_ ?_ ?_ ?_ ?_ ?_<;>dsimp only[Az,Rg,At,Tr.q,Tr.e,jZ]
  all_goals simp only[f0,f1,f2,c0,f5,f3,Bool.not_true,reduceCtorEq,false_implies,true_implies,implies_true,forall_const,true_and,and_true,hU]
 have f3:ah .neq (xB Q.U) 0=false:=by rw[aQ,←pK hU];exact d3
 by_cases d4:jL Q.E=0
 case neg=>
  rw[iR (fun n=>d4 n.2.2.2.2.1)]
  have f4:ah .neq (xB Q.E) 0=true:=by rw[aI,←pK hE];exact d4
  refine jA Q 0 _ ?_ ?_ ?_ ?_ ?_ ?_ ?_ ?_ ?_ ?_<;>dsimp only[Az,Rg,At,Tr.q,Tr.e,jZ]
  all_goals simp only[f0,f1,f2,c0,f5,f3,f4,Bool.not_true,reduceCtorEq,false_implies,true_implies,implies_true,forall_const,true_and,and_true,hU,hE]
 have f4:ah .neq (xB Q.E) 0=false:=by rw[aQ,←pK hE];exact d4
 have sU:=OL hU d3
 have sE:=OL hE d4
 have iU:=ak9 hU sU f5
 have iE:=al6 f5
 cases f6:alB Q.U Q.b1 Q.r1 Q.p1 4294967295
 case false=>
  rw[iR (fun n=>by rw[iU.2 n.2.2.2.2.2.2.1] at f6;cases f6)]
  refine jA Q 0 _ ?_ ?_ ?_ ?_ ?_ ?_ ?_ ?_ ?_ ?_<;>dsimp only[Az,Rg,At,Tr.q,Tr.e,jZ]
  all_goals simp only[f0,f1,f2,c0,f5,f3,f4,f6,Bool.not_true,Bool.not_false,reduceCtorEq,false_implies,true_implies,implies_true,forall_const,true_and,and_true,hU,hE,sU]
 cases f7:alB Q.E Q.b2 Q.r2 Q.p2 65535
 case false=>
  rw[iR (fun n=>by rw[iE.2 n.2.2.2.2.2.2.2.1] at f7;cases f7)]
  refine jA Q 0 _ ?_ ?_ ?_ ?_ ?_ ?_ ?_ ?_ ?_ ?_<;>dsimp only[Az,Rg,At,Tr.q,Tr.e,jZ]
  all_goals simp only[f0,f1,f2,c0,f5,f3,f4,f6,f7,Bool.not_true,Bool.not_false,reduceCtorEq,false_implies,true_implies,implies_true,forall_const,true_and,and_true,hU,hE,sU,sE]
 by_cases d8:Q.rv.length≤8
 case neg=>
  rw[iR (fun n=>d8 n.2.2.2.2.2.2.2.2.1)]
  have f8:ah .gtr (Q.rv.length:Int) 8=true:=by rw[fD];omega
  refine jA Q 0 _ ?_ ?_ ?_ ?_ ?_ ?_ ?_ ?_ ?_ ?_<;>dsimp only[Az,Rg,At,Tr.q,Tr.e,jZ]
  all_goals simp only[f0,f1,f2,c0,f5,f3,f4,f6,f7,f8,Bool.not_true,reduceCtorEq,false_implies,true_implies,implies_true,forall_const,true_and,and_true,hU,hE,sU,sE]
 have f8:ah .gtr (Q.rv.length:Int) 8=false:=by rw[iD];omega
 rcases amh Q hl with⟨rf,j,rr⟩ | ⟨⟨i,i1,i2⟩,j,rr⟩
 case inr=>
  rw[iR (fun n=>by rw[n.2.2.2.2.2.2.2.2.2 i i1] at i2;cases i2)]
  refine abp Q j _ ?_ ?_ ?_ ?_ ?_ ?_ ?_ ?_ ?_ ?_<;>dsimp only[Az,Rg,At,Tr.q,Tr.e,uY]
  all_goals simp only[f0,f1,f2,c0',f5,f3,f4,f6,f7,f8,Bool.not_true,reduceCtorEq,false_implies,true_implies,implies_true,forall_const,true_and,and_true,hU,hE,sU,sE]
  exact rr
 rw[afw ⟨d0,f1,d2,d3,d4,f5,iU.1 f6,iE.1 f7,d8,rf⟩]
 refine jA Q j _ ?_ ?_ ?_ ?_ ?_ ?_ ?_ ?_ ?_ ?_<;>dsimp only[Az,Rg,At,Tr.q,Tr.e,jZ]
 all_goals simp only[f0,f1,f2,c0,f5,f3,f4,f6,f7,f8,Bool.not_true,reduceCtorEq,false_implies,true_implies,implies_true,forall_const,true_and,and_true,hU,hE,sU,sE]
 exact rr
end TableS
end
