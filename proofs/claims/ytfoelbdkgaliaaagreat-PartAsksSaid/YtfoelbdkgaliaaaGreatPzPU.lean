/- What the functions compute, and the law. No condition. -/
import Derived.Test.YtfoelbdkgaliaaaGreatPyMK
import Derived.Test.YtfoelbdkgaliaaaGreatDamYA
import Derived.Test.YtfoelbdkgaliaaaGreatPzPM
set_option linter.unusedSectionVars false
set_option linter.unusedVariables false
set_option linter.unusedSimpArgs false
noncomputable section
namespace MeterS
open Go Go.Dam Go.Proofs
set_option maxRecDepth 1000000
def iJ (b r p v q:Int):Int:=if C9 b r p=0∧0≤v∧v≤b∧0≤q∧q<p∧¬ (v=b∧0<q) then 0 else 8
theorem iq {b r p:Int} (h:C9 b r p=0):1≤b∧b≤1000000000∧0≤r∧r≤1000000000∧1≤p∧p≤1000000000:=by
 unfold C9 at h;split at h
 ·cases h
 ·omega
def AY (r q t n:Int):Int:=(n - t)*r+q
def bK (b r p v q t n:Int):Int:=if n≤t then v else if b - v≤AY r q t n / p then b else v+AY r q t n / p
def jI (b r p v q t n:Int):Int:=if n≤t then q else if b - v≤AY r q t n / p then 0 else AY r q t n%p
def jF (t n:Int):Int:=if n≤t then t else n
theorem nT (a:Int):a / 18446744073709551616*18446744073709551616+a%18446744073709551616=a:=Int.ediv_mul_add_emod a _
theorem jg {b r p v q:Int} (h:iJ b r p v q=0):C9 b r p=0∧0≤v∧v≤b∧0≤q∧q<p∧¬ (v=b∧0<q):=by
 unfold iJ at h;split at h
 ·assumption
 ·cases h
theorem afT {t r:Int} (t0:0≤t) (t1:t<18446744073709551616) (r0:0≤r) (r1:r≤1000000000):0≤t*r∧t*r≤18446744073709551615000000000:=by
 refine⟨Int.mul_nonneg t0 r0,?_⟩
 have:=Int.mul_le_mul (show t≤18446744073709551615 by omega) r1 r0 (by decide)
 exact this
variable [iG]
def lU (r q t n:Int):Int:=if ai .sub .u64 n t*IntKind.u64.wrap r / 18446744073709551616*18446744073709551616+ai .sub .u64 n t*IntKind.u64.wrap r%18446744073709551616+(0*18446744073709551616+IntKind.u64.wrap q)<340282366920938463463374607431768211456 then ai .sub .u64 n t*IntKind.u64.wrap r / 18446744073709551616*18446744073709551616+ai .sub .u64 n t*IntKind.u64.wrap r%18446744073709551616+(0+IntKind.u64.wrap q) else 0
def DX (r q t n:Int):=(lU r q t n) / 18446744073709551616*18446744073709551616+(lU r q t n)%18446744073709551616
def CS (r q t n:Int):Int:=if ai .sub .u64 n t*IntKind.u64.wrap r / 18446744073709551616*18446744073709551616+ai .sub .u64 n t*IntKind.u64.wrap r%18446744073709551616+(0*18446744073709551616+IntKind.u64.wrap q)<340282366920938463463374607431768211456 then ai .sub .u64 n t*IntKind.u64.wrap r / 18446744073709551616*18446744073709551616+ai .sub .u64 n t*IntKind.u64.wrap r%18446744073709551616+(0*18446744073709551616+IntKind.u64.wrap q) else 0
def Ee (r q t n:Int):=(CS r q t n) / 18446744073709551616*18446744073709551616+(CS r q t n)%18446744073709551616
def MG (r p q t n:Int):Int:=if(Ee r q t n) / IntKind.u64.wrap p / 18446744073709551616=0 then 0 else 16
def DL (r p q t n:Int):Int:=if(Ee r q t n) / IntKind.u64.wrap p / 18446744073709551616=0 then(DX r q t n) / IntKind.u64.wrap p%18446744073709551616 else 0
def Nh (b r p v q t n:Int):=ah .geq (DL r p q t n) (IntKind.u64.wrap (ai .sub .i64 b v))
def oG (b r p v q t n:Int):Tr D:= .e (ah .leq n t) (.lf (D.agg [i64 b,i64 r,i64 p,i64 v,i64 q,u64 t])) (.s (IntKind.u64.wrap r<18446744073709551616) (.s (0≤IntKind.u64.wrap r) (.s (ai .sub .u64 n t<18446744073709551616) (.s (0≤ai .sub .u64 n t) (.s (IntKind.u64.wrap q<18446744073709551616) (.s (0≤IntKind.u64.wrap q) (.s ((0:Int)<(18446744073709551616:Int)) (.s ((0:Int)≤(0:Int)) (.s (ai .sub .u64 n t*IntKind.u64.wrap r%18446744073709551616<18446744073709551616) (.s (0≤ai .sub .u64 n t*IntKind.u64.wrap r%18446744073709551616) (.s (ai .sub .u64 n t*IntKind.u64.wrap r / 18446744073709551616<18446744073709551616) (.s (0≤ai .sub .u64 n t*IntKind.u64.wrap r / 18446744073709551616) (.s ((lU r q t n)%18446744073709551616<18446744073709551616) (.s (0≤(lU r q t n)%18446744073709551616) (.s ((lU r q t n) / 18446744073709551616<18446744073709551616) (.s (0≤(lU r q t n) / 18446744073709551616) (.s (IntKind.u64.wrap p<4294967296) (.s (0<IntKind.u64.wrap p) (.e (ah .neq (MG r p q t n) 0) (.p (.c 8) (.lf (D.agg [i64 b,i64 r,i64 p,i64 b,i64 0,u64 n]))) (.p (.c 7) (.e (Nh b r p v q t n) (.lf (D.agg [i64 b,i64 r,i64 p,i64 b,i64 0,u64 n])) (.lf (D.agg [i64 b,i64 r,i64 p,i64 (ai .add .i64 v (IntKind.i64.wrap (DL r p q t n))),i64 (IntKind.i64.wrap ((DX r q t n)%IntKind.u64.wrap p)),u64 n])))))))))))))))))))))))
theorem BL (b r p v q t n:Int) (res:D) (h0:Az res (oG b r p v q t n) [true]) (h1:Az res (oG b r p v q t n) [false,true]) (h2:Az res (oG b r p v q t n) [false,false,true]) (h3:Az res (oG b r p v q t n) [false,false,false]):Kl 59 [D.agg [i64 b,i64 r,i64 p,i64 v,i64 q,u64 t],u64 n] res:=fA (hX6) (oG b r p v q t n) ⟨h0,fun e0=>⟨h1 e0,fun e1=>⟨h2 e0 e1,h3 e0 e1⟩⟩⟩
theorem MP (b r p v q t n:Int) (h:iJ b r p v q=0) (t0:0≤t) (t1:t<18446744073709551616) (n0:0≤n) (n1:n<18446744073709551616):
  Kl 59 [.agg [i64 b,i64 r,i64 p,i64 v,i64 q,u64 t],u64 n] (.agg [i64 b,i64 r,i64 p,i64 (bK b r p v q t n),i64 (jI b r p v q t n),u64 (jF t n)]):=by
 obtain⟨hl,v0,vb,q0,qp,_⟩:=jg h
 obtain⟨b0,b1,r0,r1,p0,p1⟩:=iq hl
 by_cases hn:n≤t
 ·refine BL b r p v q t n _ ?_ ?_ ?_ ?_<;>dsimp only[Az,Rg,At,Tr.q,Tr.e,oG]
  ·intro _;refine⟨trivial,?_⟩;unfold bK jI jF;rw[if_pos hn,if_pos hn,if_pos hn]
  all_goals
   intro a;rw[SG] at a;omega
 ·have wr:IntKind.wrap .u64 r=r:=bC (by omega) (by omega)
  have wp:IntKind.wrap .u64 p=p:=bC (by omega) (by omega)
  have wq:IntKind.wrap .u64 q=q:=bC (by omega) (by omega)
  have es:ai .sub .u64 n t=n - t:=by rw[dG,wrap_u64];omega
  have eb:ai .sub .i64 b v=b - v:=by rw[dG,aY (by omega) (by omega)]
  have wb:IntKind.wrap .u64 (b - v)=b - v:=bC (by omega) (by omega)
  obtain⟨m0,m1⟩:=afT (t:=n - t) (r:=r) (by omega) (by omega) r0 r1
  have hS:(n - t)*r+q<340282366920938463463374607431768211456:=by omega
  have d0:0≤((n - t)*r+q) / p:=Int.ediv_nonneg (by omega) (by omega)
  have d1:((n - t)*r+q) / p≤((n - t)*r+q):=Int.ediv_le_self _ (by omega)
  have e0:=Int.emod_nonneg (((n - t)*r+q)) (show p≠0 by omega)
  have e1:=Int.emod_lt_of_pos (((n - t)*r+q)) (show 0<p by omega)
  have hT:jF t n=n:=by unfold jF;rw[if_neg hn]
  have hA:b - v≤((n - t)*r+q) / p→bK b r p v q t n=b∧jI b r p v q t n=0:=fun g=>by
   have g:b - v≤AY r q t n / p:=g
   unfold bK jI;rw[if_neg hn,if_neg hn,if_pos g,if_pos g];exact⟨rfl,rfl⟩
  have hB:¬ b - v≤((n - t)*r+q) / p→bK b r p v q t n=v+((n - t)*r+q) / p∧jI b r p v q t n=((n - t)*r+q)%p:=fun g=>by
   have g:¬ b - v≤AY r q t n / p:=g
   unfold bK jI;rw[if_neg hn,if_neg hn,if_neg g,if_neg g];exact⟨rfl,rfl⟩
  refine BL b r p v q t n _ ?_ ?_ ?_ ?_<;>dsimp only[Az,Rg,At,Tr.q,Tr.e,oG]
  all_goals simp only[Nh,DL,MG,Ee,CS,DX,lU,wr,wp,wq,es,eb,wb,nT,Int.zero_mul,Int.zero_add,if_pos hS,adb,SG]
  ·intro a;omega
  ·intro _ a
   have g:¬ ((n - t)*r+q) / p / 18446744073709551616=0:=fun g=>by simp only[if_pos g] at a;cases a
   refine⟨by simp only[and_true];omega,?_⟩
   obtain⟨z1,z2⟩:=hA (by omega)
   rw[z1,z2,hT]
  ·intro _ a a2
   have g:((n - t)*r+q) / p / 18446744073709551616=0:=by
    by_cases g:((n - t)*r+q) / p / 18446744073709551616=0
    ·exact g
    ·simp only[if_neg g] at a;cases a
   simp only[if_pos g,dV] at a2
   refine⟨by simp only[and_true];omega,?_⟩
   obtain⟨z1,z2⟩:=hA (by omega)
   rw[z1,z2,hT]
  ·intro _ a a2
   have g:((n - t)*r+q) / p / 18446744073709551616=0:=by
    by_cases g:((n - t)*r+q) / p / 18446744073709551616=0
    ·exact g
    ·simp only[if_neg g] at a;cases a
   simp only[if_pos g,dS] at a2 ⊢
   refine⟨by simp only[and_true];omega,?_⟩
   obtain⟨z1,z2⟩:=hB (by omega)
   rw[z1,z2,hT]
   have g1:((n - t)*r+q) / p%18446744073709551616=((n - t)*r+q) / p:=by omega
   have g2:((n - t)*r+q) / p<b - v:=by omega
   rw[g1,aY (n:=((n - t)*r+q) / p) (by omega) (by omega),aY (n:=((n - t)*r+q)%p) (by omega) (by omega),dH,aY (by omega) (by omega)]
def kS (r q t n:Int):Int:=if ai .sub .u64 n t*IntKind.u64.wrap r / 18446744073709551616*18446744073709551616+ai .sub .u64 n t*IntKind.u64.wrap r%18446744073709551616+(0*18446744073709551616+IntKind.u64.wrap q)<340282366920938463463374607431768211456 then ai .sub .u64 n t*IntKind.u64.wrap r / 18446744073709551616*18446744073709551616+ai .sub .u64 n t*IntKind.u64.wrap r%18446744073709551616+(0+IntKind.u64.wrap q) else 0
def kK (r q t n:Int):=(kS r q t n) / 18446744073709551616*18446744073709551616+(kS r q t n)%18446744073709551616
def Di (r p q t n:Int):=(kK r q t n) / IntKind.u64.wrap p / 18446744073709551616*18446744073709551616+(kK r q t n) / IntKind.u64.wrap p%18446744073709551616
def D5 (b r p v q t n:Int):=qF (Di r p q t n) (0+IntKind.u64.wrap (ai .sub .i64 b v))
def rG (b r p v q t n:Int):Tr D:= .e (ah .lss n t) (.lf (D.agg [i64 b,i64 r,i64 p,i64 v,i64 q,u64 t])) (.s (IntKind.u64.wrap r<18446744073709551616) (.s (0≤IntKind.u64.wrap r) (.s (ai .sub .u64 n t<18446744073709551616) (.s (0≤ai .sub .u64 n t) (.s (IntKind.u64.wrap q<18446744073709551616) (.s (0≤IntKind.u64.wrap q) (.s ((0:Int)<(18446744073709551616:Int)) (.s ((0:Int)≤(0:Int)) (.s (ai .sub .u64 n t*IntKind.u64.wrap r%18446744073709551616<18446744073709551616) (.s (0≤ai .sub .u64 n t*IntKind.u64.wrap r%18446744073709551616) (.s (ai .sub .u64 n t*IntKind.u64.wrap r / 18446744073709551616<18446744073709551616) (.s (0≤ai .sub .u64 n t*IntKind.u64.wrap r / 18446744073709551616) (.s ((kS r q t n)%18446744073709551616<18446744073709551616) (.s (0≤(kS r q t n)%18446744073709551616) (.s ((kS r q t n) / 18446744073709551616<18446744073709551616) (.s (0≤(kS r q t n) / 18446744073709551616) (.s (IntKind.u64.wrap p<4294967296) (.s (0<IntKind.u64.wrap p) (.s (IntKind.u64.wrap (ai .sub .i64 b v)<18446744073709551616) (.s (0≤IntKind.u64.wrap (ai .sub .i64 b v)) (.s ((kK r q t n) / IntKind.u64.wrap p%18446744073709551616<18446744073709551616) (.s (0≤(kK r q t n) / IntKind.u64.wrap p%18446744073709551616) (.e (ah .geq (D5 b r p v q t n) 0) (.lf (D.agg [i64 b,i64 r,i64 p,i64 b,i64 0,u64 n])) (.lf (D.agg [i64 b,i64 r,i64 p,i64 (ai .add .i64 v (IntKind.i64.wrap ((kK r q t n) / IntKind.u64.wrap p%18446744073709551616))),i64 (IntKind.i64.wrap ((kK r q t n)%IntKind.u64.wrap p)),u64 n])))))))))))))))))))))))))
theorem BG (b r p v q t n:Int) (res:D) (h0:Az res (rG b r p v q t n) [true]) (h1:Az res (rG b r p v q t n) [false,true]) (h2:Az res (rG b r p v q t n) [false,false]):Kl 155 [D.agg [i64 b,i64 r,i64 p,i64 v,i64 q,u64 t],u64 n] res:=fA (hX6) (rG b r p v q t n) ⟨h0,fun e0=>⟨h1 e0,h2 e0⟩⟩
theorem YO {b r p v q t:Int} (h:iJ b r p v q=0):(if b - v≤AY r q t t / p then b else v+AY r q t t / p)=v∧(if b - v≤AY r q t t / p then 0 else AY r q t t%p)=q:=by
 obtain⟨hl,v0,vb,q0,qp,hq⟩:=jg h
 have e:AY r q t t=q:=by unfold AY;rw[Int.sub_self,Int.zero_mul];omega
 have d:q / p=0:=Int.ediv_eq_zero_of_lt q0 qp
 have m:q%p=q:=Int.emod_eq_of_lt q0 qp
 rw[e,d,m]
 constructor<;>split<;>omega
theorem LP (b r p v q t n:Int) (h:iJ b r p v q=0) (t0:0≤t) (t1:t<18446744073709551616) (n0:0≤n) (n1:n<18446744073709551616):
  Kl 155 [.agg [i64 b,i64 r,i64 p,i64 v,i64 q,u64 t],u64 n] (.agg [i64 b,i64 r,i64 p,i64 (bK b r p v q t n),i64 (jI b r p v q t n),u64 (jF t n)]):=by
 obtain⟨hl,v0,vb,q0,qp,hqq⟩:=jg h
 obtain⟨b0,b1,r0,r1,p0,p1⟩:=iq hl
 by_cases hn:n<t
 ·refine BG b r p v q t n _ ?_ ?_ ?_<;>dsimp only[Az,Rg,At,Tr.q,Tr.e,rG]
  ·intro _;refine⟨trivial,?_⟩;unfold bK jI jF;rw[if_pos (by omega),if_pos (by omega),if_pos (by omega)]
  all_goals
   intro a;rw[aX] at a;omega
 ·have wr:IntKind.wrap .u64 r=r:=bC (by omega) (by omega)
  have wp:IntKind.wrap .u64 p=p:=bC (by omega) (by omega)
  have wq:IntKind.wrap .u64 q=q:=bC (by omega) (by omega)
  have es:ai .sub .u64 n t=n - t:=by rw[dG,wrap_u64];omega
  have eb:ai .sub .i64 b v=b - v:=by rw[dG,aY (by omega) (by omega)]
  have wb:IntKind.wrap .u64 (b - v)=b - v:=bC (by omega) (by omega)
  obtain⟨m0,m1⟩:=afT (t:=n - t) (r:=r) (by omega) (by omega) r0 r1
  have hS:(n - t)*r+q<340282366920938463463374607431768211456:=by omega
  have d0:0≤((n - t)*r+q) / p:=Int.ediv_nonneg (by omega) (by omega)
  have d1:((n - t)*r+q) / p≤((n - t)*r+q):=Int.ediv_le_self _ (by omega)
  have e0:=Int.emod_nonneg (((n - t)*r+q)) (show p≠0 by omega)
  have e1:=Int.emod_lt_of_pos (((n - t)*r+q)) (show 0<p by omega)
  have hT:jF t n=n:=by unfold jF;split<;>omega
  have hN:AY r q t n=(n - t)*r+q:=rfl
  have hV:bK b r p v q t n=if b - v≤AY r q t n / p then b else v+AY r q t n / p:=by
   unfold bK
   by_cases e:n≤t
   ·obtain rfl:n=t:=by omega
    rw[if_pos e];exact(YO h).1.symm
   ·rw[if_neg e]
  have hQ:jI b r p v q t n=if b - v≤AY r q t n / p then 0 else AY r q t n%p:=by
   unfold jI
   by_cases e:n≤t
   ·obtain rfl:n=t:=by omega
    rw[if_pos e];exact(YO h).2.symm
   ·rw[if_neg e]
  generalize hM:(n - t)*r=m at *
  have w:m / 18446744073709551616*18446744073709551616+m%18446744073709551616=m:=nT m
  have k0:kS r q t n=m+q:=by unfold kS;rw[es,wr,wq,hM,w,if_pos (by omega)];omega
  have k1:kK r q t n=m+q:=by unfold kK;rw[k0];exact nT _
  have k2:Di r p q t n=(m+q) / p:=by unfold Di;rw[k1,wp];exact nT _
  have k3:D5 b r p v q t n=qF ((m+q) / p) (b - v):=by unfold D5;rw[k2,eb,wb,Int.zero_add]
  refine BG b r p v q t n _ ?_ ?_ ?_<;>dsimp only[Az,Rg,At,Tr.q,Tr.e,rG]
  all_goals simp only[k0,k1,k2,k3,es,eb,wr,wp,wq,wb,hM,dV,dS,aP,aX]
  ·intro a;omega
  ·intro _ a
   have g:b - v≤AY r q t n / p:=by rw[hN];unfold qF at a;(repeat' split at a)<;>omega
   refine⟨by simp only[and_true];omega,?_⟩
   rw[hV,hQ,hT,if_pos g,if_pos g]
  ·intro _ a
   have g:¬ b - v≤AY r q t n / p:=by rw[hN];unfold qF at a;(repeat' split at a)<;>omega
   refine⟨by simp only[and_true];omega,?_⟩
   rw[hV,hQ,hT,if_neg g,if_neg g,hN]
   rw[hN] at g
   have g1:(m+q) / p%18446744073709551616=(m+q) / p:=by omega
   rw[g1,aY (n:=(m+q) / p) (by omega) (by omega),aY (n:=(m+q)%p) (by omega) (by omega),dH,aY (by omega) (by omega)]
end MeterS
end
noncomputable section
namespace TableS
open Go Go.Dam Go.Proofs
set_option maxRecDepth 1000000
def XW (j:Int):=ai .rem .i64 (ai .add .i64 j 1) 16
def Hl (m:Nat) (o j:Int) (kx px:List Int) (ux:List Bool):Tr (Ex×Cs):= .s (decide (j< ↑m)=true) (.s (decide (0≤j)=true) (.s (j.toNat<kx.length) (.e (ux.getD j.toNat false) (.s (decide (j< ↑m)=true) (.s (decide (0≤j)=true) (.s (j.toNat<kx.length) (.s (eX (kx.getD j.toNat 0)) (.s (Qn (cO (kx.getD j.toNat 0))∧Qn o∧Qn j) (.e (bhV (cO (kx.getD j.toNat 0)) o j) (.q (false) (.lf (Ex.normal,(d4T (m) (o) (XW j) (kx) (px) (ux))))) (.s (decide (j< ↑m)=true) (.s (decide (0≤j)=true) (.s (j.toNat<kx.length) (.s (decide (o< ↑m)=true) (.s (decide (0≤o)=true) (.s (ux.length=kx.length) (.s (px.length=kx.length) (.s (kx.length=kx.length) (.s (o.toNat<kx.length) (.s (decide (j< ↑m)=true) (.s (decide (0≤j)=true) (.s ((ay.bools (ux.set o.toNat (ux.getD j.toNat false))).len=af [.ints .u32 (kx.set o.toNat (kx.getD j.toNat 0)), .ints .i64 (px.set o.toNat (px.getD j.toNat 0)), .bools (ux.set o.toNat (ux.getD j.toNat false))]) (.s ((ay.ints .i64 (px.set o.toNat (px.getD j.toNat 0))).len=af [.ints .u32 (kx.set o.toNat (kx.getD j.toNat 0)), .ints .i64 (px.set o.toNat (px.getD j.toNat 0)), .bools (ux.set o.toNat (ux.getD j.toNat false))]) (.s ((ay.ints .u32 (kx.set o.toNat (kx.getD j.toNat 0))).len=af [.ints .u32 (kx.set o.toNat (kx.getD j.toNat 0)), .ints .i64 (px.set o.toNat (px.getD j.toNat 0)), .bools (ux.set o.toNat (ux.getD j.toNat false))]) (.s (j.toNat<af [.ints .u32 (kx.set o.toNat (kx.getD j.toNat 0)), .ints .i64 (px.set o.toNat (px.getD j.toNat 0)), .bools (ux.set o.toNat (ux.getD j.toNat false))]) (.q (false) (.lf (Ex.normal,(d4T (m) (j) (XW j) ((kx.set o.toNat (kx.getD j.toNat 0)).set j.toNat 0) ((px.set o.toNat (px.getD j.toNat 0)).set j.toNat 0) ((ux.set o.toNat (ux.getD j.toNat false)).set j.toNat false)))))))))))))))))))))))))) (.lf (Ex.exit 0,(d4T (m) (o) (j) (kx) (px) (ux)))))))
theorem II (m:Nat) (o j:Int) (kx px:List Int) (ux:List Bool) (σ:St) (e:Ex) (h0:Rg 148 0 e σ (Hl m o j kx px ux) [true,true]) (h1:Rg 148 0 e σ (Hl m o j kx px ux) [true,false]) (h2:Rg 148 0 e σ (Hl m o j kx px ux) [false]):Rn 148 0 (d4T m o j kx px ux).abs e σ:=qH (afU) [[4,5,6,7,8]] [(672,672)] (Hl m o j kx px ux) ⟨fun e0=>⟨h0 e0,h1 e0⟩,h2⟩
def aen (kx:List Int) (ux:List Bool) (k:Int):=ai .rem .i64 (ai .add .i64 (su kx ux k) 1) 16
def acS (kx px:List Int) (ux:List Bool) (k:Int):=d4T kx.length (su kx ux k) (aen kx ux k) (kx.set (su kx ux k).toNat 0) (px.set (su kx ux k).toNat 0) (ux.set (su kx ux k).toNat false)
def Vw (kx px:List Int) (ux:List Bool) (k e j:Int) (ky py:List Int) (uy:List Bool):Tr D:= .s (okI kx) (.e (ah .neq (lY kx px ux) 0) (.s (okI kx) (.lf (D.aS [bZ,i64 (lY kx px ux)]))) (.s (kx.length≤200) (.e (ah .lss (su kx ux k) 0) (.lf (D.aS [bZ,i64 6])) (.p (.l [[4,5,6,7,8]] [(672,672)] (acS kx px ux k) (Ex.exit 0) (d4T kx.length e j ky py uy)) (.s (ux.length=kx.length) (.s (px.length=kx.length) (.s (kx.length=kx.length) (.s (kx.length*24≤17592186044416) (.s (decide (su kx ux k<(kx.length:Int))=true) (.s (decide (0≤su kx ux k)=true) (.s (ux.length=kx.length) (.s (px.length=kx.length) (.s (kx.length=kx.length) (.s ((su kx ux k).toNat<kx.length) (.q (false) (.s (Rl 148 0 (acS kx px ux k).abs (Ex.exit 0) (d4T kx.length e j ky py uy).abs) (.k ((d4T kx.length (su kx ux k) (aen kx ux k) (kx.set (su kx ux k).toNat 0) (px.set (su kx ux k).toNat 0) (ux.set (su kx ux k).toNat false)=d4T kx.length (su kx ux k) (aen kx ux k) (kx.set (su kx ux k).toNat 0) (px.set (su kx ux k).toNat 0) (ux.set (su kx ux k).toNat false))) rfl (.s (kx.length=af [.ints .u32 ky, .ints .i64 py, .bools uy]) (.lf (D.aS [D.oc [.ints .u32 ky, .ints .i64 py, .bools uy],i64 0]))))))))))))))))))))
theorem IL (kx px:List Int) (ux:List Bool) (k e j:Int) (ky py:List Int) (uy:List Bool) (res:D) (h0:Az res (Vw kx px ux k e j ky py uy) [true]) (h1:Az res (Vw kx px ux k e j ky py uy) [false,true]) (h2:Az res (Vw kx px ux k e j ky py uy) [false,false]):Kl 148 [cc kx px ux,u32 k] res:=fA (afU) (Vw kx px ux k e j ky py uy) ⟨h0,fun e0=>⟨h1 e0,h2 e0⟩⟩
theorem Vo:∀ (D d:Nat) (R:Dp),aby R→d<D→R.ux.getD ((R.j+d)%16) false=false→1≤ds R.i R.j∧ds R.i R.j+d≤15→
  Rn 148 0 (d4T 16 R.i R.j (R.kx.set R.i 0) (R.px.set R.i 0) (R.ux.set R.i false)).abs (.exit 0)
   (d4T 16 (pU D R).i (pU D R).j ((pU D R).kx.set (pU D R).i 0) ((pU D R).px.set (pU D R).i 0) ((pU D R).ux.set (pU D R).i false)).abs
 |0,d,R,_,h,_,_=>by omega
 |D+1,d,R,ho,hd,hf,hs=>by
  have ho':=ho
  obtain⟨o1,o2,o3,o4,o5,o6,o7⟩:=ho'
  have hij:R.i≠R.j:=fun e=>by have:=hs.1;unfold ds at this;omega
  have bi:decide (0≤(R.i:Int))=true:=decide_eq_true (by omega)
  have bj:decide (0≤(R.j:Int))=true:=decide_eq_true (by omega)
  have bi2:decide ((R.i:Int)<((16:Nat):Int))=true:=decide_eq_true (by omega)
  have bj2:decide ((R.j:Int)<((16:Nat):Int))=true:=decide_eq_true (by omega)
  have g1:(R.kx.set R.i 0).getD R.j 0=R.kx.getD R.j 0:=getD_set_ne hij
  have g2:(R.px.set R.i 0).getD R.j 0=R.px.getD R.j 0:=getD_set_ne hij
  have g3:(R.ux.set R.i false).getD R.j false=R.ux.getD R.j false:=fQ hij
  have hk:=o6 R.j o2
  have hh:=wC hk
  have hb:=kC hk
  have hq:=afx (kx:=R.kx) o1 o2 hk
  have hbv:bhV (cO (R.kx.getD R.j 0)) R.i R.j=!dpC R.kx R.i R.j:=by
   rw[hq]
   unfold bhV
   simp only[Int.toNat_natCast]
   exact amo _ hh R.i o1 R.j o2 hij
  have nx:XW (R.j:Int)=(((R.j+1)%16:Nat):Int):=CV R.j o2
  by_cases c:R.ux.getD R.j false=true
  ·have hd0:d≠0:=fun e=>by
    subst e
    rw[Nat.add_zero,Nat.mod_eq_of_lt o2,c] at hf;cases hf
   have huu:R.ux.set R.i (R.ux.getD R.j false)=R.ux:=by
    rw[c]
    apply List.ext_getElem (by simp)
    intro n h1 h2
    by_cases e:R.i=n
    ·subst e
     rw[List.getElem_set_self]
     rw[List.getD_eq_getElem?_getD,List.getElem?_eq_getElem h2] at o7
     exact o7.symm
    ·rw[List.getElem_set_ne e]
   by_cases c2:dpC R.kx R.i R.j=true
   ·have e:pU (D+1) R=pU D ⟨R.j,(R.j+1)%16,R.kx.set R.i (R.kx.getD R.j 0),R.px.set R.i (R.px.getD R.j 0),R.ux⟩:=by simp only[pU,if_pos c,if_pos c2,huu]
    have ih:=Vo D (d - 1) ⟨R.j,(R.j+1)%16,R.kx.set R.i (R.kx.getD R.j 0),R.px.set R.i (R.px.getD R.j 0),R.ux⟩
     ⟨o2,by show(R.j+1)%16<16;omega,by show(List.set _ _ _).length=16;rw[List.length_set];exact o3,by show(List.set _ _ _).length=16;rw[List.length_set];exact o4,o5,fun j hj=>by
      show eX ((R.kx.set R.i (R.kx.getD R.j 0)).getD j 0)
      by_cases q:R.i=j
      ·subst q;rw[aN (by omega)];exact o6 R.j o2
      ·rw[getD_set_ne q];exact o6 j hj,c⟩ (by omega) (by
      show R.ux.getD (((R.j+1)%16+(d - 1))%16) false=false
      rw[show((R.j+1)%16+(d - 1))%16=(R.j+d)%16 by omega];exact hf) (by
      show 1≤ds R.j ((R.j+1)%16)∧ds R.j ((R.j+1)%16)+(d - 1)≤15
      unfold ds at hs ⊢;omega)
    rw[e]
    refine II 16 R.i R.j _ _ _ _ _ ?_ ?_ ?_<;>dsimp only[Az,Rg,At,Tr.q,Tr.e,RG,Hl]
    ·intro _ g
     rw[Int.toNat_natCast,g1,hbv,c2] at g;cases g
    ·intro _ _
     simp only[Int.toNat_natCast,g1,g2,g3,nx,List.set_set,huu]
     refine⟨?_,ih⟩
     (repeat' (first | assumption | apply And.intro))<;>first | exact trivial | rfl | omega | (simp only[af,ay.len,List.length_set]<;>omega)
    ·intro g;rw[Int.toNat_natCast,g3,c] at g;cases g
   ·have e:pU (D+1) R=pU D { R with j:=(R.j+1)%16 }:=by simp only[pU,if_pos c,if_neg c2]
    have ih:=Vo D (d - 1) { R with j:=(R.j+1)%16 } ⟨o1,by show(R.j+1)%16<16;omega,o3,o4,o5,o6,o7⟩ (by omega) (by
     show R.ux.getD (((R.j+1)%16+(d - 1))%16) false=false
     rw[show((R.j+1)%16+(d - 1))%16=(R.j+d)%16 by omega];exact hf) (by
     show 1≤ds R.i ((R.j+1)%16)∧ds R.i ((R.j+1)%16)+(d - 1)≤15
     unfold ds at hs ⊢;omega)
    rw[e]
    have c3:dpC R.kx R.i R.j=false:=by simpa using c2
    refine II 16 R.i R.j _ _ _ _ _ ?_ ?_ ?_<;>dsimp only[Az,Rg,At,Tr.q,Tr.e,RG,Hl]
    ·intro _ _
     simp only[Int.toNat_natCast,g1,nx]
     refine⟨?_,ih⟩
     (repeat' (first | assumption | apply And.intro))<;>first | exact trivial | rfl | omega | (simp only[af,ay.len,List.length_set]<;>omega)
    ·intro _ g
     rw[Int.toNat_natCast,g1,hbv,c3] at g;cases g
    ·intro g;rw[Int.toNat_natCast,g3,c] at g;cases g
  ·have e:pU (D+1) R=R:=by simp only[pU,if_neg c]
   rw[e]
   refine II 16 R.i R.j _ _ _ _ _ ?_ ?_ ?_<;>dsimp only[Az,Rg,At,Tr.q,Tr.e,RG,Hl]
   ·intro g;rw[Int.toNat_natCast,g3] at g;exact absurd g c
   ·intro g;rw[Int.toNat_natCast,g3] at g;exact absurd g c
   ·intro _
    refine⟨?_,rfl,rfl⟩
    (repeat' (first | assumption | apply And.intro))<;>first | exact trivial | rfl | omega | (simp only[af,ay.len,List.length_set,Int.toNat_natCast]<;>omega)
theorem anO (kx px:List Int) (ux:List Bool) (k:Int) (h:okI kx∧eX k∧FM kx px ux):Kl 148 [cc kx px ux,u32 k]
  (.aS [cco (if IA kx px ux k then(kP kx px ux k).kx.set (kP kx px ux k).i 0 else[]) (if IA kx px ux k then(kP kx px ux k).px.set (kP kx px ux k).i 0 else[]) (if IA kx px ux k then(kP kx px ux k).ux.set (kP kx px ux k).i false else[]),i64 (dpE kx px ux k)]):=by
 obtain⟨ho,hk,hc⟩:=h
 have he:=ajW ho hc
 have hc':=hc
 obtain⟨c0,c1,c2⟩:=hc
 by_cases c:uw kx px ux=0
 ·have c':lY kx px ux=0:=by rw[he];exact c
  have x:=QL ho ⟨c0,c1,c2⟩ c
  obtain⟨a1,a2⟩:=ad8 x hk
  have l:=x.1.1
  have l2:px.length=16:=by omega
  have l3:ux.length=16:=by omega
  have hle:=x.2.1
  have hlt:=Aa (kx:=kx) ux hk
  by_cases u:ux.getD (dn kx ux k) false=true
  ·have hO:IA kx px ux k:=⟨c,u⟩
   have hat:=a2 (a1.2 u)
   obtain⟨f,hf,hz⟩:=jK (n:=16) (ux:=ux) (by omega)
   have hne:f≠dn kx ux k:=fun q=>by rw[q,u] at hz;cases hz
   have hd:(f+16 - (dn kx ux k+1)%16)%16≤14:=by omega
   have hfree:ux.getD (((dn kx ux k+1)%16+(f+16 - (dn kx ux k+1)%16)%16)%16) false=false:=by
    rw[show((dn kx ux k+1)%16+(f+16 - (dn kx ux k+1)%16)%16)%16=f by omega];exact hz
   have ok0:aby ⟨dn kx ux k,(dn kx ux k+1)%16,kx,px,ux⟩:=⟨hlt,by show(dn kx ux k+1)%16<16;omega,l,l2,l3,fun j hj=>ho.2 j (by omega),u⟩
   obtain⟨r1,_⟩:=Po 16 ((f+16 - (dn kx ux k+1)%16)%16) _ ok0 (by omega) hfree
   have r2:=Vo 16 ((f+16 - (dn kx ux k+1)%16)%16) _ ok0 (by omega) hfree (by
    show 1≤ds (dn kx ux k) ((dn kx ux k+1)%16)∧ds (dn kx ux k) ((dn kx ux k+1)%16)+_≤15
    unfold ds;omega)
   have r3:aby (kP kx px ux k):=r1
   have r4:=au r2
   obtain⟨q1,q2,q3,q4,q5,_⟩:=r3
   have hE:dpE kx px ux k=0:=by unfold dpE;rw[if_pos c,if_pos u]
   have b:=aA (n:=kx.length) (i:=dn kx ux k) (by omega)
   have nx:ai .rem .i64 (ai .add .i64 (dn kx ux k:Int) 1) 16=(((dn kx ux k+1)%16:Nat):Int):=CV _ hlt
   simp only[if_pos hO];rw[hE]
   refine IL kx px ux k (kP kx px ux k).i (kP kx px ux k).j ((kP kx px ux k).kx.set (kP kx px ux k).i 0) ((kP kx px ux k).px.set (kP kx px ux k).i 0) ((kP kx px ux k).ux.set (kP kx px ux k).i false) _ ?_ ?_ ?_<;>dsimp only[Az,Rg,At,Tr.q,Tr.e,Vw]
   ·intro g;rw[aI] at g;exact absurd c' g
   ·intro _ g;rw[aP] at g;omega
   ·intro _ _
    have hc1:acS kx px ux k=d4T 16 (dn kx ux k) (((dn kx ux k+1)%16:Nat):Int) (kx.set (dn kx ux k) 0) (px.set (dn kx ux k) 0) (ux.set (dn kx ux k) false):=by
     show d4T kx.length (su kx ux k) (ai .rem .i64 (ai .add .i64 (su kx ux k) 1) 16) (kx.set (su kx ux k).toNat 0) (px.set (su kx ux k).toNat 0) (ux.set (su kx ux k).toNat false)=_
     rw[hat,nx,l,Int.toNat_natCast]
    rw[hat,hc1,l]
    refine⟨⟨?_,r4,?_⟩,rfl⟩
    ·simp only[af,ay.len,List.length_set];omega
    ·have b1:=b.1
     have b2:=b.2
     (repeat' (first | assumption | apply And.intro))<;>first | exact trivial | rfl | assumption | omega | (simp only[af,ay.len,List.length_set,Int.toNat_natCast]<;>omega) | (rw[←l];assumption) | (rw[Int.toNat_natCast];exact hlt)
  ·have hO:¬ IA kx px ux k:=fun o=>u o.2
   simp only[if_neg hO]
   unfold dpE;rw[if_pos c,if_neg u]
   refine bf (U6 _) ?_
   refine IL kx px ux k 0 0 [] [] [] _ ?_ ?_ ?_<;>dsimp only[Az,Rg,At,Tr.q,Tr.e,Vw]
   ·intro g;rw[aI] at g;exact absurd c' g
   ·intro _ _;exact⟨⟨by omega,ho,trivial⟩,rfl⟩
   ·intro _ g;rw[aX] at g;exact absurd (a1.1 (by omega)) u
 ·have hO:¬ IA kx px ux k:=fun o=>c o.1
  have hne:lY kx px ux≠0:=fun e=>c (by rw[←he];exact e)
  simp only[if_neg hO]
  unfold dpE;rw[if_neg c,←he]
  refine bf (U6 _) ?_
  refine IL kx px ux k 0 0 [] [] [] _ ?_ ?_ ?_<;>dsimp only[Az,Rg,At,Tr.q,Tr.e,Vw]
  ·intro _;exact⟨⟨ho,ho,trivial⟩,rfl⟩
  ·intro g;rw[aQ] at g;exact absurd g hne
  ·intro g;rw[aQ] at g;exact absurd g hne
theorem amE (args res l) (h:pdC args=some (res,l)) (hl:aJ l):Kl 148 args res:=by
 unfold pdC at h;split at h
 ·obtain⟨rfl,rfl⟩:=dB h;obtain⟨h0,_⟩:=hl
  exact anO _ _ _ _ h0
 ·cases h
def EN (T:Tb) (k o i:Int):Tr (Ex×Cs):= .e (ah .lss i T.n) (.s (decide (i<(T.us.length:Int))=true) (.s (decide (0≤i)=true) (.e (T.us.getD i.toNat false) (.p (.c 5) (.s (decide (i<(T.ks.length:Int))=true) (.s (decide (0≤i)=true) (.e (ah .eql (T.ks.getD i.toNat 0) k) (.lf (Ex.ret,(Lr T (k) (i) (i)))) (.lf (Ex.normal,(Lr T (k) (o) (ai .add .i64 i 1)))))))) (.p (.c 6) (.lf (Ex.normal,(Lr T (k) (o) (ai .add .i64 i 1)))))))) (.lf (Ex.exit 0,(Lr T (k) (o) (i))))
theorem Hg (T:Tb) (k o i:Int) (σ:St) (e:Ex) (h0:Rg 87 0 e σ (EN T k o i) [true,true,true]) (h1:Rg 87 0 e σ (EN T k o i) [true,true,false]) (h2:Rg 87 0 e σ (EN T k o i) [true,false]) (h3:Rg 87 0 e σ (EN T k o i) [false]):Rn 87 0 (Lr T k o i).abs e σ:=qH (Je) [[1,2,4,5]] [(64,64)] (EN T k o i) ⟨fun e0=>⟨fun e1=>⟨h0 e0 e1,h1 e0 e1⟩,h2 e0⟩,h3⟩
def ajs (T:Tb) (k i:Int):Tr D:= .p (.l [[1,2,4,5]] [(64,64)] (Lr T k 0 0) (Ex.exit 0) (Lr T k 0 i)) (.s (Rl 87 0 (Lr T k 0 0).abs (Ex.exit 0) (Lr T k 0 i).abs) (.k ((Lr T k 0 0=Lr T k 0 0)) rfl (.lf (i64 (-1)))))
theorem aai (T:Tb) (k i:Int) (res:D) (h0:Az res (ajs T k i) []):Kl 87 [T.d,u32 k] res:=fA (Je) (ajs T k i) h0
def ajl (T:Tb) (k o i:Int):Tr D:= .p (.l [[1,2,4,5]] [(64,64)] (Lr T k 0 0) Ex.ret (Lr T k o i)) (.s (Rl 87 0 (Lr T k 0 0).abs (Ex.ret) (Lr T k o i).abs) (.k ((Lr T k 0 0=Lr T k 0 0)) rfl (.lf (i64 o))))
theorem aa6 (T:Tb) (k o i:Int) (res:D) (h0:Az res (ajl T k o i) []):Kl 87 [T.d,u32 k] res:=fA (Je) (ajl T k o i) h0
theorem Xh {T:Tb} {k:Int} (hn:T.n≤200) (hk:(T.ks.length:Int)=T.n) (hu:(T.us.length:Int)=T.n) {m:Nat} (hm:(m:Int)≤T.n) {o:Int} {e:Ex} {σ:St}
  (hno:∀ i:Nat,i<m→T.us.getD i false=true→T.ks.getD i 0≠k)
  (hr:Rn 87 0 (Lr T k o m).abs e σ):∀ (d i:Nat),i+d=m→
  Rn 87 0 (Lr T k o i).abs e σ
 |0,i,h=>by rw[Nat.add_zero] at h;subst h;exact hr
 |d+1,i,h=>by
  have ih:=Xh hn hk hu hm hno hr d (i+1) (by omega)
  have nx:ai .add .i64 (i:Int) 1=((i+1:Nat):Int):=by rw[dH,aY (by omega) (by omega)];omega
  have b1:decide (0≤(i:Int))=true:=decide_eq_true (by omega)
  have b2:decide ((i:Int)<(T.us.length:Int))=true:=decide_eq_true (by omega)
  have b3:decide ((i:Int)<(T.ks.length:Int))=true:=decide_eq_true (by omega)
  refine Hg T k o i _ _ ?_ ?_ ?_ ?_<;>dsimp only[Az,Rg,At,Tr.q,Tr.e,RG,EN]
  ·intro _ g1 g2;rw[Int.toNat_natCast] at g1 g2;rw[bY] at g2;exact absurd g2 (hno i (by omega) g1)
  ·intro _ _ _;rw[nx];exact⟨⟨b1,b3,b1,b2,trivial⟩,ih⟩
  ·intro _ _;rw[nx];exact⟨⟨b1,b2,trivial⟩,ih⟩
  ·intro g;rw[aX] at g;omega
theorem anU (T:Tb) (k:Int) (h:fZ T∧eX k∧jL T=0):Kl 87 [T.d,u32 k] (i64 (dL T k)):=by
 obtain⟨ho,hk,c⟩:=h
 obtain⟨L,F,v⟩:=tY ho c
 have lens:=jY ho v
 have ul:=kF v
 have hn:T.n≤200:=by have:=v.sz.2.1;omega
 have h0:=v.sz.1
 rcases IU v hk with⟨i,ep,hi,hu,ek⟩ | ⟨ep,hn2⟩
 ·have b1:decide (0≤(i:Int))=true:=decide_eq_true (by omega)
  have b2:decide ((i:Int)<(T.us.length:Int))=true:=decide_eq_true (by omega)
  have b3:decide ((i:Int)<(T.ks.length:Int))=true:=decide_eq_true (by omega)
  have r:=Xh (T:=T) (k:=k) (m:=i) (o:=0) (e:= .ret) (σ:=(Lr T k i i).abs) hn lens.1 ul (by omega) (fun j hj uj e=>by
   have:=JA v (i:=j) (j:=i) (by omega) hi uj hu (by rw[e,ek]);omega) (by
   refine Hg T k 0 i _ _ ?_ ?_ ?_ ?_<;>dsimp only[Az,Rg,At,Tr.q,Tr.e,RG,EN]
   ·intro _ _ _;exact⟨⟨b1,b3,b1,b2,trivial⟩,rfl,rfl⟩
   ·intro _ _ g;rw[Int.toNat_natCast,bV] at g;exact absurd ek g
   ·intro _ g;rw[Int.toNat_natCast,hu] at g;cases g
   ·intro g;rw[aX] at g;omega) i 0 (by omega)
  rw[ep]
  exact aa6 T k i i _ ⟨⟨au r,trivial⟩,rfl⟩
 ·obtain⟨m,em⟩:∃ m:Nat,T.n=m:=⟨T.n.toNat,by omega⟩
  have r:=Xh (T:=T) (k:=k) (m:=m) (o:=0) (e:= .exit 0) (σ:=(Lr T k 0 m).abs) hn lens.1 ul (by omega) (fun j hj uj e=>hn2 j (by omega) uj e) (by
   refine Hg T k 0 m _ _ ?_ ?_ ?_ ?_<;>dsimp only[Az,Rg,At,Tr.q,Tr.e,RG,EN]
   ·intro g;rw[aP] at g;omega
   ·intro g;rw[aP] at g;omega
   ·intro g;rw[aP] at g;omega
   ·intro _;exact⟨trivial,rfl,rfl⟩) m 0 (by omega)
  rw[ep]
  exact aai T k m _ ⟨⟨au r,trivial⟩,rfl⟩
def TD (f:Tb→Int→D×List Prop):List D→Option (D×List Prop)
 |[d, .v (.int .u32 k)]=>match WH d with
  |some T=>some (f T k)
  |none=>none
 |_=>none
theorem Jl {f:Tb→Int→D×List Prop} {g:FuncId} (hf:∀ T k,aJ (f T k).2→Kl g [T.d,u32 k] (f T k).1) (args res l) (h:TD f args=some (res,l)) (hl:aJ l):Kl g args res:=by
 unfold TD at h
 split at h
 next d k=>
  split at h
  next T ht=>
   simp only[Option.some.injEq] at h
   have e:=Hr ht
   subst e
   have:=hf T k (by rw[h];exact hl)
   rw[h] at this;exact this
  ·cases h
 ·cases h
def a6S (T:Tb) (k:Int):Prop:=fZ T∧eX k∧jL T=0
def a6C:List D→Option (D×List Prop):=TD fun T k=>(i64 (dL T k),[a6S T k])
theorem alI (args res l) (h:a6C args=some (res,l)) (hl:aJ l):Kl 87 args res:=Jl (f:=fun T k=>(i64 (dL T k),[a6S T k])) (fun T k h=>anU T k h.1) args res l h hl
def X21:aB:=aF 87 (.call a6C) (aF 148 (.call pdC) X20)
theorem abL:bT Pg X21:=aj alI (aj amE afU)
def Xv (T:Tb) (k:Int):=if yT T.ps T.no T.h T.t (dL T k) then yI T.ps T.no (dL T k) else[]
def XL (T:Tb) (k:Int):=if yT T.ps T.no T.h T.t (dL T k) then Ak T.ps T.no (dL T k) else[]
def Ym (T:Tb) (k:Int):=if CJ T.nx T.us T.fr (dL T k) then T.nx.set (dL T k).toNat T.fr else[]
def Xr (T:Tb) (k:Int):=if CJ T.nx T.us T.fr (dL T k) then T.us.set (dL T k).toNat false else[]
def Xi (T:Tb) (k:Int):=if IA T.kx T.px T.ux k then(kP T.kx T.px T.ux k).kx.set (kP T.kx T.px T.ux k).i 0 else[]
def V6 (T:Tb) (k:Int):=if IA T.kx T.px T.ux k then(kP T.kx T.px T.ux k).px.set (kP T.kx T.px T.ux k).i 0 else[]
def XO (T:Tb) (k:Int):=if IA T.kx T.px T.ux k then(kP T.kx T.px T.ux k).ux.set (kP T.kx T.px T.ux k).i false else[]
def aeA (T:Tb) (k:Int):Tr D:= .s (a6S T k) (.s (Lu T) (.s (T.no.length≤200) (.s (okI T.kx∧eX k∧FM T.kx T.px T.ux) (.s (T.us.length≤200∧T.nx.length≤200) (.s (decide (dL T k< ↑(af [.ints .u32 T.ks]))=true) (.s (decide (0≤dL T k)=true) (.s ((ay.ints .u32 T.ks).len=af [.ints .u32 T.ks]) (.s ((dL T k).toNat<af [.ints .u32 T.ks]) (.s (decide (dL T k< ↑(af [.ints .i64 T.x1, .ints .i64 T.x2, .ints .i64 T.x3, .ints .i64 T.x4, .ints .i64 T.x5, .ints .u64 T.x6]))=true) (.s (decide (0≤dL T k)=true) (.s ((ay.ints .u64 T.x6).len=af [.ints .i64 T.x1, .ints .i64 T.x2, .ints .i64 T.x3, .ints .i64 T.x4, .ints .i64 T.x5, .ints .u64 T.x6]) (.s ((ay.ints .i64 T.x5).len=af [.ints .i64 T.x1, .ints .i64 T.x2, .ints .i64 T.x3, .ints .i64 T.x4, .ints .i64 T.x5, .ints .u64 T.x6]) (.s ((ay.ints .i64 T.x4).len=af [.ints .i64 T.x1, .ints .i64 T.x2, .ints .i64 T.x3, .ints .i64 T.x4, .ints .i64 T.x5, .ints .u64 T.x6]) (.s ((ay.ints .i64 T.x3).len=af [.ints .i64 T.x1, .ints .i64 T.x2, .ints .i64 T.x3, .ints .i64 T.x4, .ints .i64 T.x5, .ints .u64 T.x6]) (.s ((ay.ints .i64 T.x2).len=af [.ints .i64 T.x1, .ints .i64 T.x2, .ints .i64 T.x3, .ints .i64 T.x4, .ints .i64 T.x5, .ints .u64 T.x6]) (.s ((ay.ints .i64 T.x1).len=af [.ints .i64 T.x1, .ints .i64 T.x2, .ints .i64 T.x3, .ints .i64 T.x4, .ints .i64 T.x5, .ints .u64 T.x6]) (.s ((dL T k).toNat<af [.ints .i64 T.x1, .ints .i64 T.x2, .ints .i64 T.x3, .ints .i64 T.x4, .ints .i64 T.x5, .ints .u64 T.x6]) (.q (af [.ints .i64 (XL T k)]) (.q (af [.ints .i64 (Xv T k)]) (.q (af [.ints .u32 (Xi T k), .ints .i64 (V6 T k), .bools (XO T k)]) (.q (af [.bools (Xr T k)]) (.q (af [.ints .i64 (Ym T k)]) (.s (af [.ints .i64 T.x1, .ints .i64 T.x2, .ints .i64 T.x3, .ints .i64 T.x4, .ints .i64 T.x5, .ints .u64 T.x6]=af [.ints .i64 (T.x1.set (dL T k).toNat 0), .ints .i64 (T.x2.set (dL T k).toNat 0), .ints .i64 (T.x3.set (dL T k).toNat 0), .ints .i64 (T.x4.set (dL T k).toNat 0), .ints .i64 (T.x5.set (dL T k).toNat 0), .ints .u64 (T.x6.set (dL T k).toNat 0)]) (.s (af [.ints .u32 T.ks]=af [.ints .u32 (T.ks.set (dL T k).toNat 0)]) (.lf (D.agg [i64 T.n,D.oc [.ints .u32 (T.ks.set (dL T k).toNat 0)],D.oc [.ints .i64 (T.x1.set (dL T k).toNat 0), .ints .i64 (T.x2.set (dL T k).toNat 0), .ints .i64 (T.x3.set (dL T k).toNat 0), .ints .i64 (T.x4.set (dL T k).toNat 0), .ints .i64 (T.x5.set (dL T k).toNat 0), .ints .u64 (T.x6.set (dL T k).toNat 0)],D.oc [.ints .i64 (Ym T k)],D.oc [.bools (Xr T k)],i64 (if CJ T.nx T.us T.fr (dL T k) then dL T k else 0),D.oc [.ints .u32 (Xi T k), .ints .i64 (V6 T k), .bools (XO T k)],D.oc [.ints .i64 (Xv T k)],D.oc [.ints .i64 (XL T k)],i64 (if yT T.ps T.no T.h T.t (dL T k) then Ht T.ps T.no T.h (dL T k) else 0),i64 (if yT T.ps T.no T.h T.t (dL T k) then JF T.ps T.no T.t (dL T k) else 0)]))))))))))))))))))))))))))
theorem abE (T:Tb) (k:Int) (res:D) (h0:Az res (aeA T k) []):Kl 90 [T.d,u32 k] res:=fA (abL) (aeA T k) h0
def aeD (T:Tb) (k:Int):Prop:=fZ T∧eX k∧jL T=0∧0≤dL T k
theorem alx (T:Tb) (k:Int) (h:aeD T k):Kl 90 [T.d,u32 k] (T.without k (dL T k).toNat).o:=by
 obtain⟨ho,hk,c,hp⟩:=h
 obtain⟨L,F,v⟩:=tY ho c
 have ho':=ho
 obtain⟨d8,_,_,d1,d2,d3,d4,d5,d6,d7⟩:=ho'
 have lens:=jY ho v
 rcases IU v hk with⟨i,ep,hi,hu,ek⟩ | ⟨ep,hn⟩
 ·have lc:=UL v.od
  have tm:(i:Int)∈L:=by have:=v.us i hi;rw[hu] at this;simpa using this.symm
  have ps6:(T.ps.length:Int)=T.n:=v.sz.2.2.2.2.2
  have nx5:(T.nx.length:Int)=T.n:=v.sz.2.2.2.2.1
  have hrm:yT T.ps T.no T.h T.t i:=⟨lc,⟨by omega,by omega⟩,(OG v.od (by omega) (by omega)).2 tm⟩
  have hgv:CJ T.nx T.us T.fr i:=⟨RQ v.ar,by omega,by omega,by rw[Int.toNat_natCast];exact hu⟩
  have hdp:IA T.kx T.px T.ux k:=by
   obtain⟨j,hj,uj,e1,e2⟩:=mV v hi hu
   refine⟨Ij v.ix,?_⟩
   have:=Zp v.ix hj uj
   rw[e1,ek] at this
   rw[this];exact uj
  have tws:Lu T:=⟨d6,d4,d1,d2,d5,d7,d3⟩
  have a6s:a6S T k:=⟨ho,hk,c⟩
  refine abE T k _ ?_<;>dsimp only[Az,Rg,At,Tr.q,Tr.e,aeA]
  simp only[Xv,XL,Ym,Xr,Xi,V6,XO,ep,if_pos hrm,if_pos hgv,if_pos hdp]
  refine⟨?_,rfl⟩
  (repeat' (first | assumption | apply And.intro))<;>first | exact trivial | rfl | ((try refine @decide_eq_true _ _ ?_);first | omega | (simp only[af,ay.len,List.length_set,Int.toNat_natCast]<;>omega))
 ·omega
def aom:List D→Option (D×List Prop):=TD fun T k=>((T.without k (dL T k).toNat).o,[aeD T k])
theorem aiH (args res l) (h:aom args=some (res,l)) (hl:aJ l):Kl 90 args res:=Jl (f:=fun T k=>((T.without k (dL T k).toNat).o,[aeD T k])) (fun T k h=>alx T k h.1) args res l h hl
def X22:aB:=aF 90 (.call aom) X21
theorem afQ:bT Pg X22:=aj aiH abL
def Xb (T:Tb):=if gu T.nx T.us T.fr then T.nx.set T.fr.toNat (-1) else[]
def Xu (T:Tb):=if gu T.nx T.us T.fr then T.us.set T.fr.toNat true else[]
def Yq (T:Tb) (b r p:Int):=T.x1.set (if gu T.nx T.us T.fr then T.fr else 0).toNat (sN b r p b)
def Yb (T:Tb) (b r p:Int):=T.x2.set (if gu T.nx T.us T.fr then T.fr else 0).toNat (sN b r p r)
def Xa (T:Tb) (b r p:Int):=T.x3.set (if gu T.nx T.us T.fr then T.fr else 0).toNat (sN b r p p)
def WS (T:Tb) (b r p:Int):=T.x4.set (if gu T.nx T.us T.fr then T.fr else 0).toNat (sN b r p b)
def Ye (T:Tb) (b r p a:Int):=T.x6.set (if gu T.nx T.us T.fr then T.fr else 0).toNat (sN b r p a)
def zl (T:Tb):=ai .sub .i64 (↑(af [.ints .u32 (MO T)])) 1
def WV (T:Tb) (k:Int):=if nX T.ps T.no T.h T.t (dL T k) then toP T.ps T.no T.h (dL T k) else[]
def V7 (T:Tb) (k:Int):=if nX T.ps T.no T.h T.t (dL T k) then toN T.ps T.no T.h (dL T k) else[]
def ax (T:Tb):=T.without ((MO T).getD (zl T).toNat 0) (dL T ((MO T).getD (zl T).toNat 0)).toNat
def dI (T:Tb):Int:=if gu (ax T).nx (ax T).us (ax T).fr then(ax T).fr else 0
def QG (T:Tb) (k:Int):=if Aj T.kx T.px T.ux k (if gu T.nx T.us T.fr then T.fr else 0) then T.kx.set (dn T.kx T.ux k) k else[]
def Oz (T:Tb):=if gu (ax T).nx (ax T).us (ax T).fr then(ax T).nx.set (ax T).fr.toNat (-1) else[]
def PU (T:Tb):=if gu (ax T).nx (ax T).us (ax T).fr then(ax T).us.set (ax T).fr.toNat true else[]
def QN (T:Tb) (k:Int):=if Aj T.kx T.px T.ux k (if gu T.nx T.us T.fr then T.fr else 0) then T.ux.set (dn T.kx T.ux k) true else[]
def PW (T:Tb) (k:Int):=if Aj (ax T).kx (ax T).px (ax T).ux k (dI T) then(ax T).kx.set (dn (ax T).kx (ax T).ux k) k else[]
def P9 (T:Tb):=if nX T.ps T.no T.h T.t (if gu T.nx T.us T.fr then T.fr else 0) then toP T.ps T.no T.h (if gu T.nx T.us T.fr then T.fr else 0) else[]
def OB (T:Tb):=if nX T.ps T.no T.h T.t (if gu T.nx T.us T.fr then T.fr else 0) then toN T.ps T.no T.h (if gu T.nx T.us T.fr then T.fr else 0) else[]
def O7 (T:Tb) (k:Int):=if Aj (ax T).kx (ax T).px (ax T).ux k (dI T) then(ax T).ux.set (dn (ax T).kx (ax T).ux k) true else[]
def Qz (T:Tb) (k:Int):=if Aj T.kx T.px T.ux k (if gu T.nx T.us T.fr then T.fr else 0) then T.px.set (dn T.kx T.ux k) (if gu T.nx T.us T.fr then T.fr else 0) else[]
def OZ (T:Tb) (k:Int):=if Aj (ax T).kx (ax T).px (ax T).ux k (dI T) then(ax T).px.set (dn (ax T).kx (ax T).ux k) (dI T) else[]
def O1 (T:Tb):=if nX (ax T).ps (ax T).no (ax T).h (ax T).t (dI T) then toP (ax T).ps (ax T).no (ax T).h (dI T) else[]
def P7 (T:Tb):=if nX (ax T).ps (ax T).no (ax T).h (ax T).t (dI T) then toN (ax T).ps (ax T).no (ax T).h (dI T) else[]
def wW (T:Tb) (k b r p a:Int):Tr D:= .s (fZ T) (.e (ah .neq (xB T) 0) (.s (fZ T) (.lf (D.aS [D.agg [i64 0,bZ,bZ,bZ,bZ,i64 0,bZ,bZ,bZ,i64 0,i64 0],u32 0,bo false,i64 (xB T)]))) (.e (ah .neq (iF b r p) 0) (.lf (D.aS [D.agg [i64 0,bZ,bZ,bZ,bZ,i64 0,bZ,bZ,bZ,i64 0,i64 0],u32 0,bo false,i64 (iF b r p)])) (.s (Lu T) (.s (a6S T k) (.e (ah .geq (dL T k) 0) (.s (T.no.length≤200) (.q (af [.ints .i64 (V7 T k)]) (.q (af [.ints .i64 (WV T k)]) (.q (af [.ints .u32 T.kx, .ints .i64 T.px, .bools T.ux]) (.q (af [.bools T.us]) (.q (af [.ints .i64 T.nx]) (.q (af [.ints .i64 T.x1, .ints .i64 T.x2, .ints .i64 T.x3, .ints .i64 T.x4, .ints .i64 T.x5, .ints .u64 T.x6]) (.q (af [.ints .u32 T.ks]) (.lf (D.aS [D.agg [i64 T.n,D.oc [.ints .u32 T.ks],D.oc [.ints .i64 T.x1, .ints .i64 T.x2, .ints .i64 T.x3, .ints .i64 T.x4, .ints .i64 T.x5, .ints .u64 T.x6],D.oc [.ints .i64 T.nx],D.oc [.bools T.us],i64 T.fr,D.oc [.ints .u32 T.kx, .ints .i64 T.px, .bools T.ux],D.oc [.ints .i64 (WV T k)],D.oc [.ints .i64 (V7 T k)],i64 (if nX T.ps T.no T.h T.t (dL T k) then dL T k else 0),i64 (if nX T.ps T.no T.h T.t (dL T k) then Vl T.ps T.no T.h T.t (dL T k) else 0)],u32 0,bo false,i64 0])))))))))) (.s (T.nx.length≤200) (.e (ah .eql (c3U T.nx T.us T.fr) T.n) (.s (ltS T) (.s (decide (ai .sub .i64 (↑(af [.ints .u32 (MO T)])) 1< ↑(af [.ints .u32 (MO T)]))=true) (.s (decide (0≤ai .sub .i64 (↑(af [.ints .u32 (MO T)])) 1)=true) (.s ((zl T).toNat<af [.ints .u32 (MO T)]) (.s (aeD T ((MO T).getD (zl T).toNat 0)) (.s ((ax T).us.length≤200∧(ax T).nx.length≤200) (.q (af [.bools (ax T).us]) (.q (af [.ints .i64 (ax T).nx]) (.s (decide ((dI T)< ↑(af [.ints .u32 (ax T).ks]))=true) (.s (decide (0≤if gu (ax T).nx (ax T).us (ax T).fr then(ax T).fr else 0)=true) (.s ((ay.ints .u32 (ax T).ks).len=af [.ints .u32 (ax T).ks]) (.s ((dI T).toNat<af [.ints .u32 (ax T).ks]) (.s (decide ((dI T)< ↑(af [.ints .i64 (ax T).x1, .ints .i64 (ax T).x2, .ints .i64 (ax T).x3, .ints .i64 (ax T).x4, .ints .i64 (ax T).x5, .ints .u64 (ax T).x6]))=true) (.s (decide (0≤if gu (ax T).nx (ax T).us (ax T).fr then(ax T).fr else 0)=true) (.s ((ay.ints .u64 (ax T).x6).len=af [.ints .i64 (ax T).x1, .ints .i64 (ax T).x2, .ints .i64 (ax T).x3, .ints .i64 (ax T).x4, .ints .i64 (ax T).x5, .ints .u64 (ax T).x6]) (.s ((ay.ints .i64 (ax T).x5).len=af [.ints .i64 (ax T).x1, .ints .i64 (ax T).x2, .ints .i64 (ax T).x3, .ints .i64 (ax T).x4, .ints .i64 (ax T).x5, .ints .u64 (ax T).x6]) (.s ((ay.ints .i64 (ax T).x4).len=af [.ints .i64 (ax T).x1, .ints .i64 (ax T).x2, .ints .i64 (ax T).x3, .ints .i64 (ax T).x4, .ints .i64 (ax T).x5, .ints .u64 (ax T).x6]) (.s ((ay.ints .i64 (ax T).x3).len=af [.ints .i64 (ax T).x1, .ints .i64 (ax T).x2, .ints .i64 (ax T).x3, .ints .i64 (ax T).x4, .ints .i64 (ax T).x5, .ints .u64 (ax T).x6]) (.s ((ay.ints .i64 (ax T).x2).len=af [.ints .i64 (ax T).x1, .ints .i64 (ax T).x2, .ints .i64 (ax T).x3, .ints .i64 (ax T).x4, .ints .i64 (ax T).x5, .ints .u64 (ax T).x6]) (.s ((ay.ints .i64 (ax T).x1).len=af [.ints .i64 (ax T).x1, .ints .i64 (ax T).x2, .ints .i64 (ax T).x3, .ints .i64 (ax T).x4, .ints .i64 (ax T).x5, .ints .u64 (ax T).x6]) (.s ((dI T).toNat<af [.ints .i64 (ax T).x1, .ints .i64 (ax T).x2, .ints .i64 (ax T).x3, .ints .i64 (ax T).x4, .ints .i64 (ax T).x5, .ints .u64 (ax T).x6]) (.s (okI (ax T).kx∧eX k∧FM (ax T).kx (ax T).px (ax T).ux) (.q (af [.ints .u32 (ax T).kx, .ints .i64 (ax T).px, .bools (ax T).ux]) (.s ((ax T).no.length≤200) (.q (af [.ints .i64 (ax T).no]) (.q (af [.ints .i64 (ax T).ps]) (.q (af [.ints .i64 (P7 T)]) (.q (af [.ints .i64 (O1 T)]) (.q (af [.ints .u32 (PW T k), .ints .i64 (OZ T k), .bools (O7 T k)]) (.q (af [.bools (PU T)]) (.q (af [.ints .i64 (Oz T)]) (.s (af [.ints .i64 (ax T).x1, .ints .i64 (ax T).x2, .ints .i64 (ax T).x3, .ints .i64 (ax T).x4, .ints .i64 (ax T).x5, .ints .u64 (ax T).x6]=af [.ints .i64 ((ax T).x1.set (dI T).toNat (sN b r p b)), .ints .i64 ((ax T).x2.set (dI T).toNat (sN b r p r)), .ints .i64 ((ax T).x3.set (dI T).toNat (sN b r p p)), .ints .i64 ((ax T).x4.set (dI T).toNat (sN b r p b)), .ints .i64 ((ax T).x5.set (dI T).toNat 0), .ints .u64 ((ax T).x6.set (dI T).toNat (sN b r p a))]) (.s (af [.ints .u32 (ax T).ks]=af [.ints .u32 ((ax T).ks.set (dI T).toNat k)]) (.lf (D.aS [D.agg [i64 (ax T).n,D.oc [.ints .u32 ((ax T).ks.set (dI T).toNat k)],D.oc [.ints .i64 ((ax T).x1.set (dI T).toNat (sN b r p b)), .ints .i64 ((ax T).x2.set (dI T).toNat (sN b r p r)), .ints .i64 ((ax T).x3.set (dI T).toNat (sN b r p p)), .ints .i64 ((ax T).x4.set (dI T).toNat (sN b r p b)), .ints .i64 ((ax T).x5.set (dI T).toNat 0), .ints .u64 ((ax T).x6.set (dI T).toNat (sN b r p a))],D.oc [.ints .i64 (Oz T)],D.oc [.bools (PU T)],i64 (if gu (ax T).nx (ax T).us (ax T).fr then(ax T).nx.getD (ax T).fr.toNat 0 else 0),D.oc [.ints .u32 (PW T k), .ints .i64 (OZ T k), .bools (O7 T k)],D.oc [.ints .i64 (O1 T)],D.oc [.ints .i64 (P7 T)],i64 (if nX (ax T).ps (ax T).no (ax T).h (ax T).t (dI T) then if gu (ax T).nx (ax T).us (ax T).fr then(ax T).fr else 0 else 0),i64 (if nX (ax T).ps (ax T).no (ax T).h (ax T).t (dI T) then Vl (ax T).ps (ax T).no (ax T).h (ax T).t (dI T) else 0)],u32 ((MO T).getD (zl T).toNat 0),bo true,i64 0]))))))))))))))))))))))))))))))))))) (.s (T.us.length≤200∧T.nx.length≤200) (.q (af [.bools T.us]) (.q (af [.ints .i64 T.nx]) (.s (decide ((if gu T.nx T.us T.fr then T.fr else 0)< ↑(af [.ints .u32 T.ks]))=true) (.s (decide (0≤if gu T.nx T.us T.fr then T.fr else 0)=true) (.s ((ay.ints .u32 T.ks).len=af [.ints .u32 T.ks]) (.s ((if gu T.nx T.us T.fr then T.fr else 0).toNat<af [.ints .u32 T.ks]) (.s (decide ((if gu T.nx T.us T.fr then T.fr else 0)< ↑(af [.ints .i64 T.x1, .ints .i64 T.x2, .ints .i64 T.x3, .ints .i64 T.x4, .ints .i64 T.x5, .ints .u64 T.x6]))=true) (.s (decide (0≤if gu T.nx T.us T.fr then T.fr else 0)=true) (.s ((ay.ints .u64 T.x6).len=af [.ints .i64 T.x1, .ints .i64 T.x2, .ints .i64 T.x3, .ints .i64 T.x4, .ints .i64 T.x5, .ints .u64 T.x6]) (.s ((ay.ints .i64 T.x5).len=af [.ints .i64 T.x1, .ints .i64 T.x2, .ints .i64 T.x3, .ints .i64 T.x4, .ints .i64 T.x5, .ints .u64 T.x6]) (.s ((ay.ints .i64 T.x4).len=af [.ints .i64 T.x1, .ints .i64 T.x2, .ints .i64 T.x3, .ints .i64 T.x4, .ints .i64 T.x5, .ints .u64 T.x6]) (.s ((ay.ints .i64 T.x3).len=af [.ints .i64 T.x1, .ints .i64 T.x2, .ints .i64 T.x3, .ints .i64 T.x4, .ints .i64 T.x5, .ints .u64 T.x6]) (.s ((ay.ints .i64 T.x2).len=af [.ints .i64 T.x1, .ints .i64 T.x2, .ints .i64 T.x3, .ints .i64 T.x4, .ints .i64 T.x5, .ints .u64 T.x6]) (.s ((ay.ints .i64 T.x1).len=af [.ints .i64 T.x1, .ints .i64 T.x2, .ints .i64 T.x3, .ints .i64 T.x4, .ints .i64 T.x5, .ints .u64 T.x6]) (.s ((if gu T.nx T.us T.fr then T.fr else 0).toNat<af [.ints .i64 T.x1, .ints .i64 T.x2, .ints .i64 T.x3, .ints .i64 T.x4, .ints .i64 T.x5, .ints .u64 T.x6]) (.s (okI T.kx∧eX k∧FM T.kx T.px T.ux) (.q (af [.ints .u32 T.kx, .ints .i64 T.px, .bools T.ux]) (.s (T.no.length≤200) (.q (af [.ints .i64 T.no]) (.q (af [.ints .i64 T.ps]) (.q (af [.ints .i64 (OB T)]) (.q (af [.ints .i64 (P9 T)]) (.q (af [.ints .u32 (QG T k), .ints .i64 (Qz T k), .bools (QN T k)]) (.q (af [.bools (Xu T)]) (.q (af [.ints .i64 (Xb T)]) (.s (af [.ints .i64 T.x1, .ints .i64 T.x2, .ints .i64 T.x3, .ints .i64 T.x4, .ints .i64 T.x5, .ints .u64 T.x6]=af [.ints .i64 (Yq T b r p), .ints .i64 (Yb T b r p), .ints .i64 (Xa T b r p), .ints .i64 (WS T b r p), .ints .i64 (T.x5.set (if gu T.nx T.us T.fr then T.fr else 0).toNat 0), .ints .u64 (Ye T b r p a)]) (.s (af [.ints .u32 T.ks]=af [.ints .u32 (T.ks.set (if gu T.nx T.us T.fr then T.fr else 0).toNat k)]) (.lf (D.aS [D.agg [i64 T.n,D.oc [.ints .u32 (T.ks.set (if gu T.nx T.us T.fr then T.fr else 0).toNat k)],D.oc [.ints .i64 (Yq T b r p), .ints .i64 (Yb T b r p), .ints .i64 (Xa T b r p), .ints .i64 (WS T b r p), .ints .i64 (T.x5.set (if gu T.nx T.us T.fr then T.fr else 0).toNat 0), .ints .u64 (Ye T b r p a)],D.oc [.ints .i64 (Xb T)],D.oc [.bools (Xu T)],i64 (if gu T.nx T.us T.fr then T.nx.getD T.fr.toNat 0 else 0),D.oc [.ints .u32 (QG T k), .ints .i64 (Qz T k), .bools (QN T k)],D.oc [.ints .i64 (P9 T)],D.oc [.ints .i64 (OB T)],i64 (if nX T.ps T.no T.h T.t (if gu T.nx T.us T.fr then T.fr else 0) then if gu T.nx T.us T.fr then T.fr else 0 else 0),i64 (if nX T.ps T.no T.h T.t (if gu T.nx T.us T.fr then T.fr else 0) then Vl T.ps T.no T.h T.t (if gu T.nx T.us T.fr then T.fr else 0) else 0)],u32 0,bo false,i64 0])))))))))))))))))))))))))))))))))))))
theorem rM (T:Tb) (k b r p a:Int) (res:D) (h0:Az res (wW T k b r p a) [true]) (h1:Az res (wW T k b r p a) [false,true]) (h2:Az res (wW T k b r p a) [false,false,true]) (h3:Az res (wW T k b r p a) [false,false,false,true]) (h4:Az res (wW T k b r p a) [false,false,false,false]):Kl 46 [T.d,u32 k,D.agg [i64 b,i64 r,i64 p],u64 a] res:=fA (afQ) (wW T k b r p a) ⟨h0,fun e0=>⟨h1 e0,fun e1=>⟨h2 e0 e1,fun e2=>⟨h3 e0 e1 e2,h4 e0 e1 e2⟩⟩⟩⟩
theorem Y2 {T:Tb} {L F:List Int} (v:Inv T L F):c3U T.nx T.us T.fr=T.n↔T.fr=-1:=by
 have ak:=RQ v.ar
 have hF:=(mJ v.ar.2.2.2.2.1 (Hu v.ar)).1
 have ul:=kF v
 unfold c3U
 rw[if_pos ak,hF,ul]
 constructor
 ·intro e
  have:F.length=0:=by omega
  have eF:F=[]:=List.length_eq_zero_iff.1 this
  have:=v.ar.2.2.2.2.1
  rw[eF] at this
  exact this
 ·intro e
  have:=(oO v e).1
  rw[this];simp
theorem alZ (T:Tb) (k b r p a:Int) (h:fZ T∧eX k):Kl 46 [T.d,u32 k, .agg [i64 b,i64 r,i64 p],u64 a] (.aS [(xW T k b r p a).o,u32 (OU T k b r p),bo (decide (Ld T k b r p)),i64 (usE T b r p)]):=by
 obtain⟨ho,hk⟩:=h
 have er:=pK ho
 by_cases c:jL T=0∧iF b r p=0
 ·obtain⟨c1,c2⟩:=c
  have f1:ah .neq (xB T) 0=false:=by rw[aQ,←er];exact c1
  have f2:ah .neq (iF b r p) 0=false:=by rw[aQ];exact c2
  obtain⟨L,F,v⟩:=tY ho c1
  have hE:usE T b r p=0:=by unfold usE;rw[if_pos c1];exact c2
  have ho':=ho
  obtain⟨d8,_,_,d1,d2,d3,d4,d5,d6,d7⟩:=ho'
  have lens:=jY ho v
  have lk:=v.ix.1.1
  have tws:Lu T:=⟨d6,d4,d1,d2,d5,d7,d3⟩
  have a6s:a6S T k:=⟨ho,hk,c1⟩
  have z:∀ x,sN b r p x=x:=fun x=>by unfold sN;rw[if_pos c2]
  rcases IU v hk with⟨i,ep,hi,hu,ek⟩ | ⟨ep,hn⟩
  ·have c3:¬ dL T k<0:=by omega
   have f3:ah .geq (dL T k) 0=true:=by rw[dV];omega
   have hW:¬ Ld T k b r p:=fun n=>c3 n.2.2.1
   have hT:nX T.ps T.no T.h T.t (dL T k):=⟨UL v.od,by omega,by have:=v.sz.2.2.2.2.2;omega⟩
   have eR:xW T k b r p a=T.touch (dL T k):=by unfold xW;rw[if_pos ⟨c1,c2⟩,if_neg c3]
   unfold OU
   rw[hE,eR,if_neg hW,decide_eq_false hW]
   refine rM T k b r p a _ ?_ ?_ ?_ ?_ ?_<;>dsimp only[Az,Rg,At,Tr.q,Tr.e,wW]
   all_goals simp only[f1,f2,f3,reduceCtorEq,false_implies,true_implies,implies_true,forall_const,true_and,and_true,WV,V7,if_pos hT]
   exact⟨⟨d3,a6s,tws,ho⟩,rfl⟩
  ·by_cases c4:T.fr=-1
   ·have hW:Ld T k b r p:=⟨c1,c2,by omega,c4⟩
    have f3:ah .geq (dL T k) 0=false:=by rw[dS];omega
    have f4:ah .eql (c3U T.nx T.us T.fr) T.n=true:=by rw[bY];exact(Y2 v).2 c4
    obtain⟨v1,ho1⟩:=Jm ho v c4
    have hn1:=Ot ho v c4 hn
    obtain⟨hF,i,A,ei,eA,hi,hu⟩:=oO v c4
    have et:T.t.toNat=i:=by omega
    have hg:eX (T.ks.getD i 0):=ho.2.1 i (by omega)
    obtain⟨g1,g2,g3,g4,g5,g6⟩:=yM ho1 v1 hk (by show((T.t.toNat:Nat):Int)≠-1;omega) hn1
    have eR:xW T k b r p a=T.less.plus k b r p a:=by unfold xW;rw[if_pos ⟨c1,c2⟩,if_pos (by omega),if_pos c4]
    have hpl:dL T (T.ks.getD i 0)=i:=by
     obtain⟨e1,e2⟩:=Bd v hg hi hu rfl
     unfold dL;rw[if_pos e1,e2]
    obtain⟨lt1,lt2⟩:=aj8 v
    have hlen:(MO T).length=A.length+1:=by rw[lt2,eA];simp
    have hA:A.length≤100:=by
     have:=jE (jV v.od)
     have:=v.od.2.2.1
     have:=v.sz.2.1
     have:=v.sz.2.2.2.2.2
     have:L.length=A.length+1:=by rw[eA];simp
     omega
    have e7:zl T=(A.length:Int):=by
     show ai .sub .i64 ((MO T).length:Int) 1=_
     rw[hlen,dG,aY (by omega) (by omega)];omega
    have eg:(MO T).getD (zl T).toNat 0=T.ks.getD i 0:=by
     rw[e7,lt2,eA,Int.toNat_natCast,List.getD_eq_getElem?_getD]
     simp[et]
    have e10:ax T=T.less:=by
     unfold ax;rw[eg,hpl];unfold Tb.less;rw[et,Int.toNat_natCast]
    have dd:aeD T (T.ks.getD i 0):=⟨ho,hg,c1,by omega⟩
    have e7':ai .sub .i64 ((af [.ints .u32 (MO T)]:Nat):Int) 1=(A.length:Int):=e7
    have eg2:(MO T).getD A.length 0=T.ks.getD i 0:=by rw[←eg,e7,Int.toNat_natCast]
    have e12:ai .sub .i64 ((A.length+1:Nat):Int) 1=(A.length:Int):=by rw[dG,aY (by omega) (by omega)];omega
    have e11:(af [.ints .u32 (MO T)]:Nat)=A.length+1:=hlen
    have lens1:=jY ho1 v1
    have qk:T.less.n=T.n:=rfl
    obtain⟨o8,_,_,o1,o2,o3,o4,o5,o6,o7⟩:=ho1
    have b1:decide (0≤(A.length:Int))=true:=decide_eq_true (by omega)
    have b2:decide ((A.length:Int)<((A.length+1:Nat):Int))=true:=decide_eq_true (by omega)
    unfold OU
    rw[hE,eR,if_pos hW,decide_eq_true hW]
    refine rM T k b r p a _ ?_ ?_ ?_ ?_ ?_<;>dsimp only[Az,Rg,At,Tr.q,Tr.e,wW]
    all_goals simp only[f1,f2,f3,f4,reduceCtorEq,false_implies,true_implies,implies_true,forall_const,true_and,and_true,dI,Oz,PU,PW,O7,OZ,O1,P7,e10,e7,eg2,e12,e11,Int.toNat_natCast,et,if_pos g1,if_pos g3,if_pos g4,z]
    refine⟨?_,rfl⟩
    (repeat' (first | assumption | apply And.intro))<;>first | exact trivial | rfl | ((try refine @decide_eq_true _ _ ?_);first | omega | (simp only[af,ay.len,List.length_set]<;>omega))
   ·have hW:¬ Ld T k b r p:=fun n=>c4 n.2.2.2
    have f3:ah .geq (dL T k) 0=false:=by rw[dS];omega
    have f4:ah .eql (c3U T.nx T.us T.fr) T.n=false:=by rw[bV];exact fun e=>c4 ((Y2 v).1 e)
    obtain⟨g1,g2,g3,g4,g5,g6⟩:=yM ho v hk c4 hn
    have eR:xW T k b r p a=T.plus k b r p a:=by unfold xW;rw[if_pos ⟨c1,c2⟩,if_pos (by omega),if_neg c4]
    unfold OU
    rw[hE,eR,if_neg hW,decide_eq_false hW]
    refine rM T k b r p a _ ?_ ?_ ?_ ?_ ?_<;>dsimp only[Az,Rg,At,Tr.q,Tr.e,wW]
    all_goals simp only[f1,f2,f3,f4,reduceCtorEq,false_implies,true_implies,implies_true,forall_const,true_and,and_true,Xb,Xu,Yq,Yb,Xa,WS,Ye,QG,QN,P9,OB,Qz,if_pos g1,if_pos g3,if_pos g4,z]
    refine⟨?_,rfl⟩
    (repeat' (first | assumption | apply And.intro))<;>first | exact trivial | rfl | ((try refine @decide_eq_true _ _ ?_);first | omega | (simp only[af,ay.len,List.length_set]<;>omega))
 ·have hW:¬ Ld T k b r p:=fun n=>c ⟨n.1,n.2.1⟩
  unfold xW OU
  rw[if_neg c,if_neg hW,decide_eq_false hW]
  refine bf (bH.aS (.cons aac (.refl _))) ?_
  unfold usE
  by_cases c1:jL T=0
  ·have f1:ah .neq (xB T) 0=false:=by rw[aQ,←er];exact c1
   have f2:ah .neq (iF b r p) 0=true:=by rw[aI];exact fun n=>c ⟨c1,n⟩
   rw[if_pos c1]
   refine rM T k b r p a _ ?_ ?_ ?_ ?_ ?_<;>dsimp only[Az,Rg,At,Tr.q,Tr.e,wW]
   all_goals simp only[f1,f2,reduceCtorEq,false_implies,true_implies,implies_true,forall_const,true_and,and_true]
   all_goals exact ho
  ·have f1:ah .neq (xB T) 0=true:=by rw[aI,←er];exact c1
   rw[if_neg c1,er]
   refine rM T k b r p a _ ?_ ?_ ?_ ?_ ?_<;>dsimp only[Az,Rg,At,Tr.q,Tr.e,wW]
   all_goals simp only[f1,reduceCtorEq,false_implies,true_implies,implies_true,forall_const,true_and,and_true]
   all_goals exact⟨ho,ho⟩
theorem ahj (args res l) (h:usC args=some (res,l)) (hl:aJ l):Kl 46 args res:=by
 unfold usC at h;split at h
 ·obtain⟨rfl,rfl⟩:=dB h
  exact alZ _ _ _ _ _ _ hl.1
 ·cases h
def X23:aB:=aF 46 (.call usC) X22
theorem IE:bT Pg X23:=aj ahj afQ
theorem PY {P:Program} {f:FuncId} {a:D} {xs:List Int} {res:D} (h0:xs=[]) (h:CallsD P f [a, .rc [.ints .i64 xs]] res):CallsD P f [a, .v (.slice none 0 0)] res:=by
 intro w A vs hv low glo
 refine h w A vs ?_ low glo
 subst h0
 simp only[dU,aG] at hv ⊢
 obtain⟨x,l,rfl,hx,y,l2,rfl,rfl,rfl⟩:=hv
 refine⟨x,_,rfl,hx,_,[],rfl,?_,rfl⟩
 refine⟨none,0,rfl,fun g=>?_,?_,fun g=>absurd rfl g,fun i j c hi=>?_⟩
 ·cases g
 ·simp[rowLen,Col.len]
 ·simp[rowLen,Col.len] at hi
theorem akO (n:Int) (h:mdS n []):Kl 137 [i64 n, .v (.slice none 0 0)] (.agg [oi (Ad n.toNat [] 0),oi (zh n.toNat [] 0),i64 (U9 [] 0),i64 (IK [] 0)]):=PY rfl (ajM n [] h)
def mdZ:List D→Option (D×List Prop)
 |[.v (.int .i64 n), .v (.slice none 0 0)]=>some ((.agg [oi (Ad n.toNat [] 0),oi (zh n.toNat [] 0),i64 (U9 [] 0),i64 (IK [] 0)]),[mdS n []])
 |_=>none
theorem alA (args res l) (h:mdZ args=some (res,l)) (hl:aJ l):Kl 137 args res:=by
 unfold mdZ at h;split at h
 ·obtain⟨rfl,rfl⟩:=dB h;obtain⟨h0,_⟩:=hl
  exact akO _ h0
 ·cases h
def X24:aB:=aF 137 (.call mdZ) X23
theorem Ws:bT Pg X24:=aj alA IE
theorem alG (n:Int):iY Pg (X14) 100000 [.d true, .c 1] 36 [i64 n]=some (D.aS [D.agg [i64 0,bZ,bZ,bZ,bZ,i64 0,bZ,bZ,bZ,i64 0,i64 0],i64 2],[ah .lss n 1=true]):=by kernel_rfl
theorem aaQ (n:Int) (res:D)
 (e0:(ah .lss n 1)=true)
 (h0:(True)∧res=D.aS [D.agg [i64 0,D.v (Value.slice none 0 0),D.v (Value.slice none 0 0),D.v (Value.slice none 0 0),D.v (Value.slice none 0 0),i64 0,D.v (Value.slice none 0 0),D.v (Value.slice none 0 0),D.v (Value.slice none 0 0),i64 0,i64 0],i64 2]):Kl 36 [i64 n] res:=by
 obtain⟨_,kr⟩:=h0
 exact aT (ads) (alG n) ⟨e0,trivial⟩ kr
theorem ahv (n:Int):iY Pg (X14) 100000 [.d false, .c 0, .d true] 36 [i64 n]=some (D.aS [D.agg [i64 0,bZ,bZ,bZ,bZ,i64 0,bZ,bZ,bZ,i64 0,i64 0],i64 2],[ah .gtr n 8=true,ah .lss n 1=false]):=by kernel_rfl
theorem Yi (n:Int) (res:D)
 (e0:(ah .lss n 1)=false)
 (e1:(ah .gtr n 8)=true)
 (h0:(True)∧res=D.aS [D.agg [i64 0,D.v (Value.slice none 0 0),D.v (Value.slice none 0 0),D.v (Value.slice none 0 0),D.v (Value.slice none 0 0),i64 0,D.v (Value.slice none 0 0),D.v (Value.slice none 0 0),D.v (Value.slice none 0 0),i64 0,i64 0],i64 2]):Kl 36 [i64 n] res:=by
 obtain⟨_,kr⟩:=h0
 exact aT (ads) (ahv n) ⟨e1,e0,trivial⟩ kr
def nwX (n:Nat):List Int:=((List.range (n - 1)).map fun i=>((i+1:Nat):Int)) ++ [-1]
def zr (n:Nat):List Int:=List.replicate n 0
def mr (n:Nat):List Int:=List.replicate n (-1)
def nwT (n:Nat):Tb:=⟨n,zr n,zr n,zr n,zr n,zr n,zr n,zr n,nwX n,List.replicate n false,0,zc1,zc1,zc2,mr n,mr n,-1,-1⟩
def owR (cs:List ay):D:= .ow (af cs) cs.length (aC cs)
def nwD (n:Nat):D:= .aS [.agg [i64 n,owR [.ints .u32 (zr n)],owR [.ints .i64 (zr n), .ints .i64 (zr n), .ints .i64 (zr n), .ints .i64 (zr n), .ints .i64 (zr n), .ints .u64 (zr n)],owR [.ints .i64 (nwX n)],ob (List.replicate n false),i64 0,cco zc1 zc1 zc2,oi (mr n),oi (mr n),i64 (-1),i64 (-1)],i64 0]
def ap2 (n:Nat):List PE:=[.c 5, .u, .c (7+n), .u, .c (n - 1)]
def nwL (n:Nat):List Prop:=[n=n,16=16,n=n,n=n,n=n,n≤200] ++ (List.replicate (if n≤1 then 1 else if n≤2 then 3 else if n≤4 then 5 else 7) (true=true) ++ [(n:Int)=n,((8*n:Nat):Int)≤1099511627776,(n:Int)≤1099511627776,true=true,true=true,true=true,true=true,true=true,true=true,(n:Int)=n,(n:Int)≤1099511627776,(n:Int)≤1099511627776])
theorem MC:∀ k,aJ (List.replicate k (true=true))
 |0=>trivial
 |k+1=>⟨rfl,MC k⟩
theorem akN:∀ n:Nat,1≤n→n≤8→iY Pg X14 100000 (ap2 n) 36 [i64 n]=some (nwD n,nwL n)
 |0,h,_=>by omega
 |1,_,_=>by kernel_rfl
 |2,_,_=>by kernel_rfl
 |3,_,_=>by kernel_rfl
 |4,_,_=>by kernel_rfl
 |5,_,_=>by kernel_rfl
 |6,_,_=>by kernel_rfl
 |7,_,_=>by kernel_rfl
 |8,_,_=>by kernel_rfl
 |n+9,_,h=>by omega
theorem kM (cs:List ay):jW (owR cs) (.oc cs):=fun w A u bl hr=>by
 refine⟨bl,?_,rfl⟩
 simp only[owR,eH] at hr ⊢
 exact hr
def nwV (n:Int):Tb:=if 1≤n∧n≤8 then nwT n.toNat else t0
def yS (n:Int):Int:=if 1≤n∧n≤8 then 0 else 2
theorem anb (n:Int):Kl 36 [i64 n] (.aS [(nwV n).o,i64 (yS n)]):=by
 unfold nwV yS
 by_cases c:1≤n∧n≤8
 ·rw[if_pos c,if_pos c]
  obtain⟨m,rfl⟩:∃ m:Nat,n=m:=⟨n.toNat,by omega⟩
  rw[Int.toNat_natCast]
  refine bf (bH.aS (.cons (bH.agg (.cons (.refl _) (.cons (kM _) (.cons (kM _) (.cons (kM _) (.refl _)))))) (.refl _))) ?_
  refine aT ads (akN m (by omega) (by omega)) ?_ rfl
  unfold nwL
  rw[aZ,aZ]
  exact⟨⟨rfl,rfl,rfl,rfl,rfl,by omega,trivial⟩,MC _,⟨rfl,by omega,by omega,rfl,rfl,rfl,rfl,rfl,rfl,rfl,by omega,by omega,trivial⟩⟩
 ·rw[if_neg c,if_neg c]
  refine bf (bH.aS (.cons aac (.refl _))) ?_
  by_cases d:n<1
  ·exact aaQ n _ (by rw[aP];exact d) ⟨trivial,rfl⟩
  ·exact Yi n _ (by rw[aX];omega) (by rw[fD];omega) ⟨trivial,rfl⟩
def nwG:List D→Option (D×List Prop)
 |[.v (.int .i64 n)]=>some ((.aS [(nwV n).o,i64 (yS n)]),[])
 |_=>none
theorem alz (args res l) (h:nwG args=some (res,l)) (hl:aJ l):Kl 36 args res:=by
 unfold nwG at h;split at h
 ·obtain⟨rfl,rfl⟩:=dB h
  exact anb _
 ·cases h
theorem amv (n:Int):iY Pg (X24) 100000 [.d true, .c 1] 39 [i64 n]=some (D.aS [D.agg [i64 0,bZ,bZ,bZ,bZ,i64 0,bZ,bZ,bZ,i64 0,i64 0],i64 2],[ah .lss n 1=true]):=by kernel_rfl
theorem aag (n:Int) (res:D)
 (e0:(ah .lss n 1)=true)
 (h0:(True)∧res=D.aS [D.agg [i64 0,D.v (Value.slice none 0 0),D.v (Value.slice none 0 0),D.v (Value.slice none 0 0),D.v (Value.slice none 0 0),i64 0,D.v (Value.slice none 0 0),D.v (Value.slice none 0 0),D.v (Value.slice none 0 0),i64 0,i64 0],i64 2]):Kl 39 [i64 n] res:=by
 obtain⟨_,kr⟩:=h0
 exact aT (Ws) (amv n) ⟨e0,trivial⟩ kr
theorem ag9 (n:Int):iY Pg (X24) 100000 [.d false, .c 0, .d true] 39 [i64 n]=some (D.aS [D.agg [i64 0,bZ,bZ,bZ,bZ,i64 0,bZ,bZ,bZ,i64 0,i64 0],i64 2],[ah .gtr n 8=true,ah .lss n 1=false]):=by kernel_rfl
theorem WA (n:Int) (res:D)
 (e0:(ah .lss n 1)=false)
 (e1:(ah .gtr n 8)=true)
 (h0:(True)∧res=D.aS [D.agg [i64 0,D.v (Value.slice none 0 0),D.v (Value.slice none 0 0),D.v (Value.slice none 0 0),D.v (Value.slice none 0 0),i64 0,D.v (Value.slice none 0 0),D.v (Value.slice none 0 0),D.v (Value.slice none 0 0),i64 0,i64 0],i64 2]):Kl 39 [i64 n] res:=by
 obtain⟨_,kr⟩:=h0
 exact aT (Ws) (ag9 n) ⟨e1,e0,trivial⟩ kr
def n6D (n:Nat):D:= .aS [.agg [i64 n,owR [.ints .u32 (zr n)],owR [.ints .i64 (zr n), .ints .i64 (zr n), .ints .i64 (zr n), .ints .i64 (zr n), .ints .i64 (zr n), .ints .u64 (zr n)],owR [.ints .i64 (nwX n)],owR [.bools (List.replicate n false)],i64 0,owR [.ints .u32 zc1, .ints .i64 zc1, .bools zc2],oi (mr n),oi (mr n),i64 (-1),i64 (-1)],i64 0]
def n6L (n:Nat):List Prop:=[n=n,n=n,mdS n []]
theorem amr:∀ n:Nat,1≤n→n≤8→iY Pg X24 100000 [.c 5, .u, .c (2*n+3)] 39 [i64 n]=some (n6D n,n6L n)
 |0,h,_=>by omega
 |1,_,_=>by kernel_rfl
 |2,_,_=>by kernel_rfl
 |3,_,_=>by kernel_rfl
 |4,_,_=>by kernel_rfl
 |5,_,_=>by kernel_rfl
 |6,_,_=>by kernel_rfl
 |7,_,_=>by kernel_rfl
 |8,_,_=>by kernel_rfl
 |n+9,_,h=>by omega
theorem akH (n:Int):Kl 39 [i64 n] (.aS [(nwV n).o,i64 (yS n)]):=by
 unfold nwV yS
 by_cases c:1≤n∧n≤8
 ·rw[if_pos c,if_pos c]
  obtain⟨m,rfl⟩:∃ m:Nat,n=m:=⟨n.toNat,by omega⟩
  rw[Int.toNat_natCast]
  refine bf (bH.aS (.cons (bH.agg (.cons (.refl _) (.cons (kM _) (.cons (kM _) (.cons (kM _) (.cons (kM _) (.cons (.refl _) (.cons (kM _) (.refl _))))))))) (.refl _))) ?_
  exact aT Ws (amr m (by omega) (by omega)) ⟨rfl,rfl,⟨by omega,by omega,by simp,by simp⟩,trivial⟩ rfl
 ·rw[if_neg c,if_neg c]
  refine bf (bH.aS (.cons aac (.refl _))) ?_
  by_cases d:n<1
  ·exact aag n _ (by rw[aP];exact d) ⟨trivial,rfl⟩
  ·exact WA n _ (by rw[aX];omega) (by rw[fD];omega) ⟨trivial,rfl⟩
theorem ajX (args res l) (h:nwG args=some (res,l)) (hl:aJ l):Kl 39 args res:=by
 unfold nwG at h;split at h
 ·obtain⟨rfl,rfl⟩:=dB h
  exact akH _
 ·cases h
def ZT (nx:List Int) (us:List Bool) (fr:Int) (o:Bool) (i:Int):Cs:=⟨TT.of [(2,D.ptr 64 0),(3,D.ptr 96 0),(4,bo o),(5,i64 i)],66,[],[(64,BX.cells [ri nx,rb us,i64 fr] false),(96,BX.cells [ri nx,rb us,i64 fr] false)],none,0⟩
def s4T (kx px:List Int) (ux:List Bool) (o:Bool) (i:Int):Cs:=⟨TT.of [(0,cc kx px ux),(1,cc kx px ux),(4,bo o),(5,i64 i)],26,[],[],none,0⟩
def s3U (nx:List Int) (us:List Bool) (fr:Int) (o:Bool) (i:Int):Cs:=⟨TT.of [(2,D.ptr 64 0),(3,D.ptr 96 0),(4,bo o),(6,i64 i)],66,[],[(64,BX.cells [ri nx,rb us,i64 fr] false),(96,BX.cells [ri nx,rb us,i64 fr] false)],none,0⟩
def s6T (T:Tb) (o:Bool) (i:Int):Cs:=⟨TT.of [(2,D.ptr 64 0),(3,D.ptr 96 0),(4,bo o),(5,i64 i)],70,[],[(64,T.b),(96,T.b)],none,0⟩
def s3C:List D→Option (D×List Prop)
 |[.agg [.rc [.ints .i64 n1], .rc [.bools u1], .v (.int .i64 f1)], .agg [.rc [.ints .i64 n2], .rc [.bools u2], .v (.int .i64 f2)]]=>some (bo true,[n1=n2∧u1=u2∧f1=f2∧n1.length≤200∧u1.length≤200])
 |_=>none
def s4C:List D→Option (D×List Prop)
 |[.rc [.ints .u32 k1, .ints .i64 p1, .bools u1], .rc [.ints .u32 k2, .ints .i64 p2, .bools u2]]=>some (bo true,[k1=k2∧p1=p2∧u1=u2∧k1.length≤200])
 |_=>none
def X25:aB:=aF 96 (.call s3C) (aF 97 (.call s4C) X23)
def ad7 (px:List Int) (ux:List Bool) (i:Int):=px.getD i.toNat 0 ==px.getD i.toNat 0 && (ux.getD i.toNat false ==ux.getD i.toNat false && true)
def acH (kx px:List Int) (ux:List Bool) (i:Int):=kx.getD i.toNat 0 ==kx.getD i.toNat 0 && (ad7 px ux i)
def MH (kx px:List Int) (ux:List Bool) (o:Bool) (i:Int):Tr (Ex×Cs):= .e (ah .lss i ↑(kx.length)) (.s (decide (i< ↑(kx.length))=true) (.s (decide (0≤i)=true) (.s (decide (i< ↑(kx.length))=true) (.s (decide (0≤i)=true) (.e (!(acH kx px ux i)) (.lf (Ex.ret,(s4T (kx) (px) (ux) (false) (i)))) (.lf (Ex.normal,(s4T (kx) (px) (ux) (o) (ai .add .i64 i 1))))))))) (.lf (Ex.exit 0,(s4T (kx) (px) (ux) (o) (i))))
theorem Uo (kx px:List Int) (ux:List Bool) (o:Bool) (i:Int) (σ:St) (e:Ex) (h0:Rg 97 0 e σ (MH kx px ux o i) [true,true]) (h1:Rg 97 0 e σ (MH kx px ux o i) [true,false]) (h2:Rg 97 0 e σ (MH kx px ux o i) [false]):Rn 97 0 (s4T kx px ux o i).abs e σ:=qH (IE) [[0,1,4,5]] [] (MH kx px ux o i) ⟨fun e0=>⟨h0 e0,h1 e0⟩,h2⟩
def YX (kx px:List Int) (ux:List Bool) (i:Int):Tr D:= .e (ah .neq ↑(kx.length) ↑(kx.length)) (.lf (bo false)) (.p (.l [[0,1,4,5]] [] (s4T kx px ux false 0) (Ex.exit 0) (s4T kx px ux false i)) (.s (Rl 97 0 (s4T kx px ux false 0).abs (Ex.exit 0) (s4T kx px ux false i).abs) (.k ((s4T kx px ux false 0=s4T kx px ux false 0)) rfl (.lf (bo true)))))
theorem abG (kx px:List Int) (ux:List Bool) (i:Int) (res:D) (h0:Az res (YX kx px ux i) [true]) (h1:Az res (YX kx px ux i) [false]):Kl 97 [cc kx px ux,cc kx px ux] res:=fA (IE) (YX kx px ux i) ⟨h0,h1⟩
def N7 (nx:List Int) (us:List Bool) (fr:Int) (o:Bool) (i:Int):Tr (Ex×Cs):= .e (ah .lss i ↑(nx.length)) (.s (decide (i< ↑(nx.length))=true) (.s (decide (0≤i)=true) (.s (decide (i< ↑(nx.length))=true) (.s (decide (0≤i)=true) (.e (ah .neq (nx.getD i.toNat 0) (nx.getD i.toNat 0)) (.lf (Ex.ret,(ZT (nx) (us) (fr) (false) (i)))) (.lf (Ex.normal,(ZT (nx) (us) (fr) (o) (ai .add .i64 i 1))))))))) (.lf (Ex.exit 0,(ZT (nx) (us) (fr) (o) (i))))
theorem SL (nx:List Int) (us:List Bool) (fr:Int) (o:Bool) (i:Int) (σ:St) (e:Ex) (h0:Rg 96 0 e σ (N7 nx us fr o i) [true,true]) (h1:Rg 96 0 e σ (N7 nx us fr o i) [true,false]) (h2:Rg 96 0 e σ (N7 nx us fr o i) [false]):Rn 96 0 (ZT nx us fr o i).abs e σ:=qH (IE) [[2,3,4,5]] [(64,64),(96,96)] (N7 nx us fr o i) ⟨fun e0=>⟨h0 e0,h1 e0⟩,h2⟩
def Np (nx:List Int) (us:List Bool) (fr:Int) (o:Bool) (i:Int):Tr (Ex×Cs):= .e (ah .lss i ↑(us.length)) (.s (decide (i< ↑(us.length))=true) (.s (decide (0≤i)=true) (.s (decide (i< ↑(us.length))=true) (.s (decide (0≤i)=true) (.e (!us.getD i.toNat false ==us.getD i.toNat false) (.lf (Ex.ret,(s3U (nx) (us) (fr) (false) (i)))) (.lf (Ex.normal,(s3U (nx) (us) (fr) (o) (ai .add .i64 i 1))))))))) (.lf (Ex.exit 2,(s3U (nx) (us) (fr) (o) (i))))
theorem U2 (nx:List Int) (us:List Bool) (fr:Int) (o:Bool) (i:Int) (σ:St) (e:Ex) (h0:Rg 96 1 e σ (Np nx us fr o i) [true,true]) (h1:Rg 96 1 e σ (Np nx us fr o i) [true,false]) (h2:Rg 96 1 e σ (Np nx us fr o i) [false]):Rn 96 1 (s3U nx us fr o i).abs e σ:=qH (IE) [[2,3,4,6]] [(64,64),(96,96)] (Np nx us fr o i) ⟨fun e0=>⟨h0 e0,h1 e0⟩,h2⟩
def NS (nx:List Int) (us:List Bool) (fr i k:Int):Tr D:= .e (ah .neq fr fr) (.p (.c 13) (.lf (bo false))) (.p (.c 5) (.e (ah .neq ↑(nx.length) ↑(nx.length)) (.p (.c 6) (.lf (bo false))) (.p (.c 5) (.e (ah .neq ↑(us.length) ↑(us.length)) (.lf (bo false)) (.p (.l [[2,3,4,5]] [(64,64),(96,96)] (ZT nx us fr false 0) (Ex.exit 0) (ZT nx us fr false i)) (.p (.l [[2,3,4,6]] [(64,64),(96,96)] (s3U nx us fr false 0) (Ex.exit 2) (s3U nx us fr false k)) (.s (Rl 96 0 (ZT nx us fr false 0).abs (Ex.exit 0) (ZT nx us fr false i).abs) (.k ((ZT nx us fr false 0=ZT nx us fr false 0)) rfl (.s (Rl 96 1 (s3U nx us fr false 0).abs (Ex.exit 2) (s3U nx us fr false k).abs) (.k ((s3U nx us fr false 0=s3U nx us fr false 0)) rfl (.lf (bo true))))))))))))
theorem aa0 (nx:List Int) (us:List Bool) (fr i k:Int) (res:D) (h0:Az res (NS nx us fr i k) [true]) (h1:Az res (NS nx us fr i k) [false,true]) (h2:Az res (NS nx us fr i k) [false,false,true]) (h3:Az res (NS nx us fr i k) [false,false,false]):Kl 96 [D.agg [ri nx,rb us,i64 fr],D.agg [ri nx,rb us,i64 fr]] res:=fA (IE) (NS nx us fr i k) ⟨h0,fun e0=>⟨h1 e0,fun e1=>⟨h2 e0 e1,h3 e0 e1⟩⟩⟩
theorem VX (x:Int):ah .neq x x=false:=by rw[aQ]
theorem anW (kx px:List Int) (ux:List Bool) (h:kx.length≤200):Kl 97 [cc kx px ux,cc kx px ux] (bo true):=by
 have r:Rn 97 0 (s4T kx px ux false 0).abs (.exit 0) (s4T kx px ux false kx.length).abs:=by
  refine fF (fun i=>s4T kx px ux false (i:Int)) kx.length (fun _=>True) (fun i hi _ σ e hr=>?_) ?_ kx.length 0 (by omega) (fun _ _ _=>trivial)
  ·refine Uo kx px ux false i σ e ?_ ?_ ?_<;>dsimp only[Az,Rg,At,Tr.q,Tr.e,RG,MH]
   ·intro _ g;simp[acH,ad7] at g
   ·intro _ _;rw[dW hi h];exact⟨⟨(aA hi).1,(aA hi).2,(aA hi).1,(aA hi).2,trivial⟩,hr⟩
   ·intro g;rw[aX] at g;omega
  ·refine Uo kx px ux false kx.length _ _ ?_ ?_ ?_<;>dsimp only[Az,Rg,At,Tr.q,Tr.e,RG,MH]
   ·intro g;rw[aP] at g;omega
   ·intro g;rw[aP] at g;omega
   ·intro _;exact⟨trivial,rfl,rfl⟩
 refine abG kx px ux kx.length _ ?_ ?_<;>dsimp only[Az,Rg,At,Tr.q,Tr.e,YX]
 ·intro g;rw[VX] at g;cases g
 ·intro _;exact⟨⟨au r,trivial⟩,rfl⟩
theorem anY (nx:List Int) (us:List Bool) (fr:Int) (h:nx.length≤200) (h':us.length≤200):Kl 96 [.agg [ri nx,rb us,i64 fr], .agg [ri nx,rb us,i64 fr]] (bo true):=by
 have r:Rn 96 0 (ZT nx us fr false 0).abs (.exit 0) (ZT nx us fr false nx.length).abs:=by
  refine fF (fun i=>ZT nx us fr false (i:Int)) nx.length (fun _=>True) (fun i hi _ σ e hr=>?_) ?_ nx.length 0 (by omega) (fun _ _ _=>trivial)
  ·refine SL nx us fr false i σ e ?_ ?_ ?_<;>dsimp only[Az,Rg,At,Tr.q,Tr.e,RG,N7]
   ·intro _ g;rw[VX] at g;cases g
   ·intro _ _;rw[dW hi h];exact⟨⟨(aA hi).1,(aA hi).2,(aA hi).1,(aA hi).2,trivial⟩,hr⟩
   ·intro g;rw[aX] at g;omega
  ·refine SL nx us fr false nx.length _ _ ?_ ?_ ?_<;>dsimp only[Az,Rg,At,Tr.q,Tr.e,RG,N7]
   ·intro g;rw[aP] at g;omega
   ·intro g;rw[aP] at g;omega
   ·intro _;exact⟨trivial,rfl,rfl⟩
 have r2:Rn 96 1 (s3U nx us fr false 0).abs (.exit 2) (s3U nx us fr false us.length).abs:=by
  refine fF (fun i=>s3U nx us fr false (i:Int)) us.length (fun _=>True) (fun i hi _ σ e hr=>?_) ?_ us.length 0 (by omega) (fun _ _ _=>trivial)
  ·refine U2 nx us fr false i σ e ?_ ?_ ?_<;>dsimp only[Az,Rg,At,Tr.q,Tr.e,RG,Np]
   ·intro _ g;simp at g
   ·intro _ _;rw[dW hi h'];exact⟨⟨(aA hi).1,(aA hi).2,(aA hi).1,(aA hi).2,trivial⟩,hr⟩
   ·intro g;rw[aX] at g;omega
  ·refine U2 nx us fr false us.length _ _ ?_ ?_ ?_<;>dsimp only[Az,Rg,At,Tr.q,Tr.e,RG,Np]
   ·intro g;rw[aP] at g;omega
   ·intro g;rw[aP] at g;omega
   ·intro _;exact⟨trivial,rfl,rfl⟩
 refine aa0 nx us fr nx.length us.length _ ?_ ?_ ?_ ?_<;>dsimp only[Az,Rg,At,Tr.q,Tr.e,NS]
 ·intro g;rw[VX] at g;cases g
 ·intro _ g;rw[VX] at g;cases g
 ·intro _ _ g;rw[VX] at g;cases g
 ·intro _ _ _;exact⟨⟨au r2,au r,trivial⟩,rfl⟩
theorem s3o (n1:List Int) (u1:List Bool) (f1:Int) (n2:List Int) (u2:List Bool) (f2:Int) (h:n1=n2∧u1=u2∧f1=f2∧n1.length≤200∧u1.length≤200):Kl 96 [.agg [ri n1,rb u1,i64 f1], .agg [ri n2,rb u2,i64 f2]] (bo true):=by
 obtain⟨rfl,rfl,rfl,h1,h2⟩:=h;exact anY _ _ _ h1 h2
theorem s4o (k1 p1:List Int) (u1:List Bool) (k2 p2:List Int) (u2:List Bool) (h:k1=k2∧p1=p2∧u1=u2∧k1.length≤200):Kl 97 [cc k1 p1 u1,cc k2 p2 u2] (bo true):=by
 obtain⟨rfl,rfl,rfl,h1⟩:=h;exact anW _ _ _ h1
theorem alF (args res l) (h:s3C args=some (res,l)) (hl:aJ l):Kl 96 args res:=by
 unfold s3C at h;split at h
 ·obtain⟨rfl,rfl⟩:=dB h;obtain⟨h0,_⟩:=hl
  exact s3o _ _ _ _ _ _ h0
 ·cases h
theorem akd (args res l) (h:s4C args=some (res,l)) (hl:aJ l):Kl 97 args res:=by
 unfold s4C at h;split at h
 ·obtain⟨rfl,rfl⟩:=dB h;obtain⟨h0,_⟩:=hl
  exact s4o _ _ _ _ _ _ h0
 ·cases h
theorem amS:bT Pg X25:=aj alF (aj akd IE)
def aef (T:Tb) (i:Int):=T.x2.getD i.toNat 0 ==T.x2.getD i.toNat 0 && (T.x3.getD i.toNat 0 ==T.x3.getD i.toNat 0 && true)
def acV (T:Tb) (i:Int):=T.x5.getD i.toNat 0 ==T.x5.getD i.toNat 0 && (T.x6.getD i.toNat 0 ==T.x6.getD i.toNat 0 && true)
def ab9 (T:Tb) (i:Int):=T.x4.getD i.toNat 0 ==T.x4.getD i.toNat 0 && (acV T i)
def acf (T:Tb) (i:Int):=T.x1.getD i.toNat 0 ==T.x1.getD i.toNat 0 && (aef T i) && (ab9 T i)
def L6 (T:Tb) (o:Bool) (i:Int):Tr (Ex×Cs):= .e (ah .lss i ↑(T.x1.length)) (.s (decide (i< ↑(T.x1.length))=true) (.s (decide (0≤i)=true) (.s (decide (i< ↑(T.x1.length))=true) (.s (decide (0≤i)=true) (.e (!(acf T i)) (.lf (Ex.ret,(s6T T (false) (i)))) (.lf (Ex.normal,(s6T T (o) (ai .add .i64 i 1))))))))) (.lf (Ex.exit 0,(s6T T (o) (i))))
theorem RV (T:Tb) (o:Bool) (i:Int) (σ:St) (e:Ex) (h0:Rg 51 0 e σ (L6 T o i) [true,true]) (h1:Rg 51 0 e σ (L6 T o i) [true,false]) (h2:Rg 51 0 e σ (L6 T o i) [false]):Rn 51 0 (s6T T o i).abs e σ:=qH (amS) [[2,3,4,5]] [(64,64),(96,96)] (L6 T o i) ⟨fun e0=>⟨h0 e0,h1 e0⟩,h2⟩
def Ii (T:Tb) (i:Int):Tr D:= .e (ah .neq T.n T.n) (.p (.c 30) (.lf (bo false))) (.p (.c 4) (.s (T.ks.length≤200) (.e (!Rq T.ks T.ks) (.p (.c 24) (.lf (bo false))) (.p (.c 5) (.e (ah .neq ↑(T.x1.length) ↑(T.x1.length)) (.p (.c 17) (.lf (bo false))) (.p (.c 16) (.s (T.nx=T.nx∧T.us=T.us∧T.fr=T.fr∧T.nx.length≤200∧T.us.length≤200) (.s (T.kx=T.kx∧T.px=T.px∧T.ux=T.ux∧T.kx.length≤200) (.s (T.ps.length≤200∧T.no.length≤200) (.e (!FX T.ps T.no T.h T.t T.ps T.no T.h T.t) (.lf (bo false)) (.p (.l [[2,3,4,5]] [(64,64),(96,96)] (s6T T false 0) (Ex.exit 0) (s6T T false i)) (.s (Rl 51 0 (s6T T false 0).abs (Ex.exit 0) (s6T T false i).abs) (.k ((s6T T false 0=s6T T false 0)) rfl (.lf (bo true)))))))))))))))
theorem abm (T:Tb) (i:Int) (res:D) (h0:Az res (Ii T i) [true]) (h1:Az res (Ii T i) [false,true]) (h2:Az res (Ii T i) [false,false,true]) (h3:Az res (Ii T i) [false,false,false,true]) (h4:Az res (Ii T i) [false,false,false,false]):Kl 51 [T.d,T.d] res:=fA (amS) (Ii T i) ⟨h0,fun e0=>⟨h1 e0,fun e1=>⟨h2 e0 e1,fun e2=>⟨h3 e0 e1 e2,h4 e0 e1 e2⟩⟩⟩⟩
theorem anF (T:Tb) (w:Lu T):Kl 51 [T.d,T.d] (bo true):=by
 obtain⟨h1,h2,h3,h4,h5,h6,h7⟩:=w
 obtain⟨k1,k2,k3,k4,k5,k6⟩:=h2
 obtain⟨c1,c2,c3⟩:=h5
 have r:Rn 51 0 (s6T T false 0).abs (.exit 0) (s6T T false T.x1.length).abs:=by
  refine fF (fun i=>s6T T false (i:Int)) T.x1.length (fun _=>True) (fun i hi _ σ e hr=>?_) ?_ T.x1.length 0 (by omega) (fun _ _ _=>trivial)
  ·refine RV T false i σ e ?_ ?_ ?_<;>dsimp only[Az,Rg,At,Tr.q,Tr.e,RG,L6]
   ·intro _ g;simp[acf,ab9,acV,aef] at g
   ·intro _ _;rw[dW hi (by omega)];exact⟨⟨(aA hi).1,(aA hi).2,(aA hi).1,(aA hi).2,trivial⟩,hr⟩
   ·intro g;rw[aX] at g;omega
  ·refine RV T false T.x1.length _ _ ?_ ?_ ?_<;>dsimp only[Az,Rg,At,Tr.q,Tr.e,RG,L6]
   ·intro g;rw[aP] at g;omega
   ·intro g;rw[aP] at g;omega
   ·intro _;exact⟨trivial,rfl,rfl⟩
 refine abm T T.x1.length _ ?_ ?_ ?_ ?_ ?_<;>dsimp only[Az,Rg,At,Tr.q,Tr.e,Ii]
 ·intro g;rw[VX] at g;cases g
 ·intro _ g;simp[Rq] at g
 ·intro _ _ g;rw[VX] at g;cases g
 ·intro _ _ _ g;simp[FX,Rq] at g
 ·intro _ _ _ _;exact⟨⟨au r,⟨h6,h7⟩,⟨rfl,rfl,rfl,by omega⟩,⟨rfl,rfl,rfl,h3,h4⟩,h1,trivial⟩,rfl⟩
theorem Bf {T:Tb} (h:fZ T):Lu T:=by
 obtain⟨d8,_,_,d1,d2,d3,d4,d5,d6,d7⟩:=h
 exact⟨d6,d4,d1,d2,d5,d7,d3⟩
theorem QO:Lu t0:=by
 refine⟨?_,⟨?_,?_,?_,?_,?_,?_⟩,?_,?_,⟨?_,?_,?_⟩,?_,?_⟩<;>simp[t0]
def afi (f:Tb→Tb→D×List Prop):List D→Option (D×List Prop)
 |[d,e]=>match WH d,WH e with
  |some T,some U=>some (f T U)
  |_,_=>none
 |_=>none
theorem acw {f:Tb→Tb→D×List Prop} {g:FuncId} (hf:∀ T U,aJ (f T U).2→Kl g [T.d,U.d] (f T U).1) (args res l) (h:afi f args=some (res,l)) (hl:aJ l):Kl g args res:=by
 unfold afi at h
 split at h
 next d e=>
  split at h
  next T U ht hu=>
   simp only[Option.some.injEq] at h
   have e1:=Hr ht
   have e2:=Hr hu
   subst e1 e2
   have:=hf T U (by rw[h];exact hl)
   rw[h] at this;exact this
  ·cases h
 ·cases h
def smC:List D→Option (D×List Prop):=afi fun T U=>(bo true,[T=U,Lu T])
theorem alh (args res l) (h:smC args=some (res,l)) (hl:aJ l):Kl 51 args res:=acw (f:=fun T U=>(bo true,[T=U,Lu T])) (fun T U h=>by obtain⟨rfl,w,_⟩:=h;exact anF T w) args res l h hl
def X26:aB:=aF 51 (.call smC) (aF 39 (.call nwG) (aF 36 (.call nwG) X25))
theorem apQ:bT Pg X26:=aj alh (aj ajX (aj alz amS))
def bkS (b r p v q t n:Int):Prop:=qA b r p v q=0∧(0≤t∧t<18446744073709551616)∧0≤n∧n<18446744073709551616
theorem aje {b r p v q:Int} (h:qA b r p v q=0):MeterS.iJ b r p v q=0:=by
 unfold qA at h;split at h
 ·have hl:MeterS.C9 b r p=0:=by unfold MeterS.C9;rw[if_neg (by omega)]
  unfold MeterS.iJ;rw[if_pos ⟨hl,by omega⟩]
 ·cases h
theorem akv (b r p v q t n:Int) (h:bkS b r p v q t n):Kl 59 [.agg [i64 b,i64 r,i64 p,i64 v,i64 q,u64 t],u64 n] (.agg [i64 b,i64 r,i64 p,i64 (MeterS.bK b r p v q t n),i64 (MeterS.jI b r p v q t n),u64 (MeterS.jF t n)]):=
 MeterS.MP b r p v q t n (aje h.1) h.2.1.1 h.2.1.2 h.2.2.1 h.2.2.2
theorem amc (b r p v q t n:Int) (h:bkS b r p v q t n):Kl 155 [.agg [i64 b,i64 r,i64 p,i64 v,i64 q,u64 t],u64 n] (.agg [i64 b,i64 r,i64 p,i64 (MeterS.bK b r p v q t n),i64 (MeterS.jI b r p v q t n),u64 (MeterS.jF t n)]):=
 MeterS.LP b r p v q t n (aje h.1) h.2.1.1 h.2.1.2 h.2.2.1 h.2.2.2
def fiC:List D→Option (D×List Prop)
 |[.agg [.v (.int .i64 b), .v (.int .i64 r), .v (.int .i64 p), .v (.int .i64 v), .v (.int .i64 q), .v (.int .u64 t)], .v (.int .u64 n)]=>some (.agg [i64 b,i64 r,i64 p,i64 (MeterS.bK b r p v q t n),i64 (MeterS.jI b r p v q t n),u64 (MeterS.jF t n)],[bkS b r p v q t n])
 |_=>none
theorem agX (args res l) (h:fiC args=some (res,l)) (hl:aJ l):Kl 59 args res:=by
 unfold fiC at h;split at h
 ·obtain⟨rfl,rfl⟩:=dB h;obtain⟨h0,_⟩:=hl
  exact akv _ _ _ _ _ _ _ h0
 ·cases h
theorem ahs (args res l) (h:fiC args=some (res,l)) (hl:aJ l):Kl 155 args res:=by
 unfold fiC at h;split at h
 ·obtain⟨rfl,rfl⟩:=dB h;obtain⟨h0,_⟩:=hl
  exact amc _ _ _ _ _ _ _ h0
 ·cases h
def X27:aB:=aF 59 (.call fiC) (aF 155 (.call fiC) X26)
theorem alM:bT Pg X27:=aj agX (aj ahs apQ)
def cgV (b r p v q t b2 n:Int):Int:=jJ .lss (MeterS.bK b r p v q t n) b2
def X28:aB:=X27
theorem ap5:bT Pg X28:=alM
def upd (us:List Bool) (f:Nat→Int) (xs:List Int):Nat→List Int
 |0=>xs
 |m+1=>if us.getD m false=true then(upd us f xs m).set m (f m) else upd us f xs m
def Tb.lim (T:Tb) (b r p a:Int) (m:Nat):Tb:={ T with
 x1:=upd T.us (fun _=>b) T.x1 m,x2:=upd T.us (fun _=>r) T.x2 m,x3:=upd T.us (fun _=>p) T.x3 m,
 x4:=upd T.us (fun i=>cgV (T.x1.getD i 0) (T.x2.getD i 0) (T.x3.getD i 0) (T.x4.getD i 0) (T.x5.getD i 0) (T.x6.getD i 0) b a) T.x4 m,
 x5:=upd T.us (fun _=>0) T.x5 m,x6:=upd T.us (fun i=>MeterS.jF (T.x6.getD i 0) a) T.x6 m }
def IV (T:Tb) (k:Int):Tr D:= .s (fZ T) (.e (ah .neq (xB T) 0) (.s (fZ T) (.lf (D.aS [D.agg [i64 0,i64 0,i64 0,i64 0,i64 0,u64 0],i64 (xB T)]))) (.s (a6S T k) (.e (ah .lss (dL T k) 0) (.lf (D.aS [D.agg [i64 0,i64 0,i64 0,i64 0,i64 0,u64 0],i64 6])) (.s (a6S T k) (.s (decide (dL T k< ↑(rowLen [Col.ints .i64 T.x1,Col.ints .i64 T.x2,Col.ints .i64 T.x3,Col.ints .i64 T.x4,Col.ints .i64 T.x5,Col.ints .u64 T.x6]))=true) (.s (decide (0≤dL T k)=true) (.lf (D.aS [D.agg [i64 (T.x1.getD (dL T k).toNat 0),i64 (T.x2.getD (dL T k).toNat 0),i64 (T.x3.getD (dL T k).toNat 0),i64 (T.x4.getD (dL T k).toNat 0),i64 (T.x5.getD (dL T k).toNat 0),u64 (T.x6.getD (dL T k).toNat 0)],i64 0]))))))))
theorem DN (T:Tb) (k:Int) (res:D) (h0:Az res (IV T k) [true]) (h1:Az res (IV T k) [false,true]) (h2:Az res (IV T k) [false,false]):Kl 47 [T.d,u32 k] res:=fA (alM) (IV T k) ⟨h0,fun e0=>⟨h1 e0,h2 e0⟩⟩
def BM (T:Tb) (k b r p v q a:Int):Tr D:= .s (fZ T) (.e (ah .neq (xB T) 0) (.s (fZ T) (.lf (D.aS [D.agg [i64 0,bZ,bZ,bZ,bZ,i64 0,bZ,bZ,bZ,i64 0,i64 0],i64 (xB T)]))) (.e (ah .neq (qA b r p v q) 0) (.lf (D.aS [D.agg [i64 0,bZ,bZ,bZ,bZ,i64 0,bZ,bZ,bZ,i64 0,i64 0],i64 (qA b r p v q)])) (.s (a6S T k) (.e (ah .lss (dL T k) 0) (.lf (D.aS [D.agg [i64 0,bZ,bZ,bZ,bZ,i64 0,bZ,bZ,bZ,i64 0,i64 0],i64 6])) (.s (Lu T) (.s (a6S T k) (.s (decide (dL T k< ↑(af [.ints .i64 T.x1, .ints .i64 T.x2, .ints .i64 T.x3, .ints .i64 T.x4, .ints .i64 T.x5, .ints .u64 T.x6]))=true) (.s (decide (0≤dL T k)=true) (.s ((ay.ints .u64 T.x6).len=af [.ints .i64 T.x1, .ints .i64 T.x2, .ints .i64 T.x3, .ints .i64 T.x4, .ints .i64 T.x5, .ints .u64 T.x6]) (.s ((ay.ints .i64 T.x5).len=af [.ints .i64 T.x1, .ints .i64 T.x2, .ints .i64 T.x3, .ints .i64 T.x4, .ints .i64 T.x5, .ints .u64 T.x6]) (.s ((ay.ints .i64 T.x4).len=af [.ints .i64 T.x1, .ints .i64 T.x2, .ints .i64 T.x3, .ints .i64 T.x4, .ints .i64 T.x5, .ints .u64 T.x6]) (.s ((ay.ints .i64 T.x3).len=af [.ints .i64 T.x1, .ints .i64 T.x2, .ints .i64 T.x3, .ints .i64 T.x4, .ints .i64 T.x5, .ints .u64 T.x6]) (.s ((ay.ints .i64 T.x2).len=af [.ints .i64 T.x1, .ints .i64 T.x2, .ints .i64 T.x3, .ints .i64 T.x4, .ints .i64 T.x5, .ints .u64 T.x6]) (.s ((ay.ints .i64 T.x1).len=af [.ints .i64 T.x1, .ints .i64 T.x2, .ints .i64 T.x3, .ints .i64 T.x4, .ints .i64 T.x5, .ints .u64 T.x6]) (.s ((dL T k).toNat<af [.ints .i64 T.x1, .ints .i64 T.x2, .ints .i64 T.x3, .ints .i64 T.x4, .ints .i64 T.x5, .ints .u64 T.x6]) (.q (af [.ints .i64 T.no]) (.q (af [.ints .i64 T.ps]) (.q (af [.ints .u32 T.kx, .ints .i64 T.px, .bools T.ux]) (.q (af [.bools T.us]) (.q (af [.ints .i64 T.nx]) (.s (af [.ints .i64 T.x1, .ints .i64 T.x2, .ints .i64 T.x3, .ints .i64 T.x4, .ints .i64 T.x5, .ints .u64 T.x6]=af [.ints .i64 (T.x1.set (dL T k).toNat b), .ints .i64 (T.x2.set (dL T k).toNat r), .ints .i64 (T.x3.set (dL T k).toNat p), .ints .i64 (T.x4.set (dL T k).toNat v), .ints .i64 (T.x5.set (dL T k).toNat q), .ints .u64 (T.x6.set (dL T k).toNat a)]) (.q (af [.ints .u32 T.ks]) (.lf (D.aS [D.agg [i64 T.n,D.oc [.ints .u32 T.ks],D.oc [.ints .i64 (T.x1.set (dL T k).toNat b), .ints .i64 (T.x2.set (dL T k).toNat r), .ints .i64 (T.x3.set (dL T k).toNat p), .ints .i64 (T.x4.set (dL T k).toNat v), .ints .i64 (T.x5.set (dL T k).toNat q), .ints .u64 (T.x6.set (dL T k).toNat a)],D.oc [.ints .i64 T.nx],D.oc [.bools T.us],i64 T.fr,D.oc [.ints .u32 T.kx, .ints .i64 T.px, .bools T.ux],D.oc [.ints .i64 T.ps],D.oc [.ints .i64 T.no],i64 T.h,i64 T.t],i64 0]))))))))))))))))))))))))
theorem yx (T:Tb) (k b r p v q a:Int) (res:D) (h0:Az res (BM T k b r p v q a) [true]) (h1:Az res (BM T k b r p v q a) [false,true]) (h2:Az res (BM T k b r p v q a) [false,false,true]) (h3:Az res (BM T k b r p v q a) [false,false,false]):Kl 50 [T.d,u32 k,D.agg [i64 b,i64 r,i64 p,i64 v,i64 q,u64 a]] res:=fA (alM) (BM T k b r p v q a) ⟨h0,fun e0=>⟨h1 e0,fun e1=>⟨h2 e0 e1,h3 e0 e1⟩⟩⟩
theorem acr {T:Tb} (ho:fZ T) (c:jL T=0) {k:Int} (hk:eX k):
  (tK T.kx T.px T.ux k=0∧dL T k=pV T.kx T.px T.ux k∧0≤dL T k∧dL T k<T.n)∨(tK T.kx T.px T.ux k≠0∧dL T k=-1):=by
 by_cases f:tK T.kx T.px T.ux k=0
 ·obtain⟨i,e,e2,_⟩:=GN ho c hk f
  have ep:dL T k=pV T.kx T.px T.ux k:=by unfold dL;rw[if_pos f]
  exact .inl ⟨f,ep,by omega,by omega⟩
 ·exact .inr ⟨f,by unfold dL;rw[if_neg f]⟩
theorem ana (T:Tb) (k:Int) (h:fZ T∧eX k):Kl 47 [T.d,u32 k] (.aS [.agg [i64 (qW T k T.x1),i64 (qW T k T.x2),i64 (qW T k T.x3),i64 (qW T k T.x4),i64 (qW T k T.x5),u64 (qW T k T.x6)],i64 (gtE T k)]):=by
 obtain⟨ho,hk⟩:=h
 have er:=pK ho
 by_cases c:jL T=0
 ·have c':xB T=0:=by rw[←er];exact c
  have a6:a6S T k:=⟨ho,hk,c⟩
  obtain⟨L,F,v⟩:=tY ho c
  have lens:=jY ho v
  rcases acr ho c hk with⟨f,e,p0,p1⟩ | ⟨f,e⟩
  ·unfold qW gtE
   rw[if_pos ⟨c,f⟩,if_pos ⟨c,f⟩,if_pos ⟨c,f⟩,if_pos ⟨c,f⟩,if_pos ⟨c,f⟩,if_pos ⟨c,f⟩,if_pos c,if_pos f,←e]
   refine DN T k _ ?_ ?_ ?_<;>dsimp only[Az,Rg,At,Tr.q,Tr.e,IV]
   ·intro g;rw[aI] at g;exact absurd c' g
   ·intro _ g;rw[aP] at g;omega
   ·intro _ _;exact⟨⟨decide_eq_true p0,decide_eq_true (by show dL T k<(T.x1.length:Int);omega),a6,a6,ho,trivial⟩,rfl⟩
  ·have n:¬ (jL T=0∧tK T.kx T.px T.ux k=0):=fun n=>f n.2
   unfold qW gtE
   rw[if_neg n,if_neg n,if_neg n,if_neg n,if_neg n,if_neg n,if_pos c,if_neg f]
   refine DN T k _ ?_ ?_ ?_<;>dsimp only[Az,Rg,At,Tr.q,Tr.e,IV]
   ·intro g;rw[aI] at g;exact absurd c' g
   ·intro _ _;exact⟨⟨a6,ho,trivial⟩,rfl⟩
   ·intro _ g;rw[aX] at g;omega
 ·have n:¬ (jL T=0∧tK T.kx T.px T.ux k=0):=fun n=>c n.1
  unfold qW gtE
  rw[if_neg n,if_neg n,if_neg n,if_neg n,if_neg n,if_neg n,if_neg c,er]
  have c':xB T≠0:=by rw[←er];exact c
  refine DN T k _ ?_ ?_ ?_<;>dsimp only[Az,Rg,At,Tr.q,Tr.e,IV]
  ·intro _;exact⟨⟨ho,ho,trivial⟩,rfl⟩
  ·intro g;rw[aQ] at g;exact absurd g c'
  ·intro g;rw[aQ] at g;exact absurd g c'
theorem aj0 (T:Tb) (k b r p v q a:Int) (h:fZ T∧eX k∧gy v):Kl 50 [T.d,u32 k, .agg [i64 b,i64 r,i64 p,i64 v,i64 q,u64 a]] (.aS [(seT T k b r p v q a).o,i64 (seE T k b r p v q)]):=by
 obtain⟨ho,hk,_⟩:=h
 have er:=pK ho
 have w:=Bf ho
 have no:∀ {e:Int},¬ (jL T=0∧qA b r p v q=0∧tK T.kx T.px T.ux k=0)→Kl 50 [T.d,u32 k, .agg [i64 b,i64 r,i64 p,i64 v,i64 q,u64 a]] (.aS [D.agg [i64 0,D.v (Value.slice none 0 0),D.v (Value.slice none 0 0),D.v (Value.slice none 0 0),D.v (Value.slice none 0 0),i64 0,D.v (Value.slice none 0 0),D.v (Value.slice none 0 0),D.v (Value.slice none 0 0),i64 0,i64 0],i64 e])→Kl 50 [T.d,u32 k, .agg [i64 b,i64 r,i64 p,i64 v,i64 q,u64 a]] (.aS [(seT T k b r p v q a).o,i64 e]):=fun n h=>by
  unfold seT;rw[if_neg n]
  exact bf (bH.aS (.cons aac (.refl _))) h
 by_cases c:jL T=0
 ·have c':xB T=0:=by rw[←er];exact c
  have a6:a6S T k:=⟨ho,hk,c⟩
  obtain⟨L,F,iv⟩:=tY ho c
  have lens:=jY ho iv
  by_cases c2:qA b r p v q=0
  ·rcases acr ho c hk with⟨f,e,p0,p1⟩ | ⟨f,e⟩
   ·unfold seT seE
    rw[if_pos ⟨c,c2,f⟩,if_pos c,if_pos c2,if_pos f,←e]
    refine yx T k b r p v q a _ ?_ ?_ ?_ ?_<;>dsimp only[Az,Rg,At,Tr.q,Tr.e,BM]
    ·intro g;rw[aI] at g;exact absurd c' g
    ·intro _ g;rw[aI] at g;exact absurd c2 g
    ·intro _ _ g;rw[aP] at g;omega
    ·intro _ _ _
     refine⟨?_,rfl⟩
     (repeat' (first | assumption | apply And.intro))<;>first | exact trivial | rfl | ((try refine @decide_eq_true _ _ ?_);first | omega | (simp only[af,ay.len,List.length_set]<;>omega))
   ·unfold seE
    rw[if_pos c,if_pos c2,if_neg f]
    refine no (fun n=>f n.2.2) ?_
    refine yx T k b r p v q a _ ?_ ?_ ?_ ?_<;>dsimp only[Az,Rg,At,Tr.q,Tr.e,BM]
    ·intro g;rw[aI] at g;exact absurd c' g
    ·intro _ g;rw[aI] at g;exact absurd c2 g
    ·intro _ _ _;exact⟨⟨a6,ho,trivial⟩,rfl⟩
    ·intro _ _ g;rw[aX] at g;omega
  ·unfold seE
   rw[if_pos c,if_neg c2]
   refine no (fun n=>c2 n.2.1) ?_
   refine yx T k b r p v q a _ ?_ ?_ ?_ ?_<;>dsimp only[Az,Rg,At,Tr.q,Tr.e,BM]
   ·intro g;rw[aI] at g;exact absurd c' g
   ·intro _ _;exact⟨⟨ho,trivial⟩,rfl⟩
   ·intro _ g;rw[aQ] at g;exact absurd g c2
   ·intro _ g;rw[aQ] at g;exact absurd g c2
 ·have c':xB T≠0:=by rw[←er];exact c
  unfold seE
  rw[if_neg c,er]
  refine no (fun n=>c n.1) ?_
  refine yx T k b r p v q a _ ?_ ?_ ?_ ?_<;>dsimp only[Az,Rg,At,Tr.q,Tr.e,BM]
  ·intro _;exact⟨⟨ho,ho,trivial⟩,rfl⟩
  ·intro g;rw[aQ] at g;exact absurd g c'
  ·intro g;rw[aQ] at g;exact absurd g c'
  ·intro g;rw[aQ] at g;exact absurd g c'
def aop (T:Tb) (k:Int):D×List Prop:=(.aS [.agg [i64 (qW T k T.x1),i64 (qW T k T.x2),i64 (qW T k T.x3),i64 (qW T k T.x4),i64 (qW T k T.x5),u64 (qW T k T.x6)],i64 (gtE T k)],[fZ T∧eX k])
def aov:List D→Option (D×List Prop):=TD aop
theorem aie (args res l) (h:aov args=some (res,l)) (hl:aJ l):Kl 47 args res:=Jl (f:=aop) (fun T k h=>ana T k h.1) args res l h hl
theorem agc (args res l) (h:seC args=some (res,l)) (hl:aJ l):Kl 50 args res:=by
 unfold seC at h;split at h
 ·obtain⟨rfl,rfl⟩:=dB h
  exact aj0 _ _ _ _ _ _ _ _ hl.1
 ·cases h
def X29:aB:=aF 47 (.call aov) (aF 50 (.call seC) X28)
theorem aqa:bT Pg X29:=aj aie (aj agc ap5)
def Tb.fs (T:Tb):List D:=[i64 T.n,ru T.ks,kr T.x1 T.x2 T.x3 T.x4 T.x5 T.x6,ri T.nx,rb T.us,i64 T.fr,cc T.kx T.px T.ux,ri T.ps,ri T.no,i64 T.h,i64 T.t]
def tbs:List D→Option (Tb×List D)
 | .v (.int .i64 v1):: .rc [.ints .u32 v2]:: .rc [.ints .i64 v3, .ints .i64 v4, .ints .i64 v5, .ints .i64 v6, .ints .i64 v7, .ints .u64 v8]:: .rc [.ints .i64 v9]:: .rc [.bools v10]:: .v (.int .i64 v11):: .rc [.ints .u32 v12, .ints .i64 v13, .bools v14]:: .rc [.ints .i64 v15]:: .rc [.ints .i64 v16]:: .v (.int .i64 v17):: .v (.int .i64 v18)::r=>
  some (⟨v1,v2,v3,v4,v5,v6,v7,v8,v9,v10,v11,v12,v13,v14,v15,v16,v17,v18⟩,r)
 |_=>none
theorem aft {l r:List D} {T:Tb} (h:tbs l=some (T,r)):l=T.fs ++ r:=by
 unfold tbs at h
 split at h
 ·obtain⟨rfl,rfl⟩:=dB h
  rfl
 ·cases h
structure Ph where
 te:Int
 b0:Int
 r0:Int
 p0:Int
 b1:Int
 r1:Int
 p1:Int
 b2:Int
 r2:Int
 p2:Int
 ob:Int
 orr:Int
 op:Int
 ov:Int
 oq:Int
 oa:Int
def phs:List D→Option (Ph×List D)
 | .v (.int .u32 v1):: .v (.int .i64 v2):: .v (.int .i64 v3):: .v (.int .i64 v4):: .v (.int .i64 v5):: .v (.int .i64 v6):: .v (.int .i64 v7):: .v (.int .i64 v8):: .v (.int .i64 v9):: .v (.int .i64 v10):: .v (.int .i64 v11):: .v (.int .i64 v12):: .v (.int .i64 v13):: .v (.int .i64 v14):: .v (.int .i64 v15):: .v (.int .u64 v16)::r=>
  some (⟨v1,v2,v3,v4,v5,v6,v7,v8,v9,v10,v11,v12,v13,v14,v15,v16⟩,r)
 |_=>none
abbrev Ph.q (p:Ph) (U E:Tb) (rv:List Int) (ta tl tc:Int):Pt:=⟨p.te,p.b0,p.r0,p.p0,p.b1,p.r1,p.p1,p.b2,p.r2,p.p2,p.ob,p.orr,p.op,p.ov,p.oq,p.oa,U,E,rv,ta,tl,tc⟩
def Ph.fs (p:Ph):List D:=[u32 p.te,i64 p.b0,i64 p.r0,i64 p.p0,i64 p.b1,i64 p.r1,i64 p.p1,i64 p.b2,i64 p.r2,i64 p.p2,i64 p.ob,i64 p.orr,i64 p.op,i64 p.ov,i64 p.oq,u64 p.oa]
theorem alH {l r:List D} {p:Ph} (h:phs l=some (p,r)):l=p.fs ++ r:=by
 unfold phs at h
 split at h
 ·obtain⟨rfl,rfl⟩:=dB h
  rfl
 ·cases h
def Yp:D→Option Pt
 | .agg l=>match phs l with
  |some (p,r)=>match tbs r with
   |some (U,r2)=>match tbs r2 with
    |some (E,[.rc [.ints .u32 rv], .v (.int .u64 ta), .v (.int .u64 tl), .v (.int .u64 tc)])=>some (p.q U E rv ta tl tc)
    |_=>none
   |none=>none
  |none=>none
 |_=>none
theorem I8 {d:D} {Q:Pt} (h:Yp d=some Q):d=Q.d:=by
 unfold Yp at h
 split at h
 next l=>
  split at h
  next p r h1=>
   split at h
   next U r2 h2=>
    split at h
    next E rv ta tl tc h3=>
     simp only[Option.some.injEq] at h;subst h
     rw[alH h1,aft h2,aft h3];rfl
    ·cases h
   ·cases h
  ·cases h
 ·cases h
def ad4 (f:Pt→D×List Prop):List D→Option (D×List Prop)
 |[d]=>match Yp d with
  |some Q=>some (f Q)
  |none=>none
 |_=>none
theorem GU {f:Pt→D×List Prop} {g:FuncId} (hf:∀ Q,aJ (f Q).2→Kl g [Q.d] (f Q).1) (args res l) (h:ad4 f args=some (res,l)) (hl:aJ l):Kl g args res:=by
 unfold ad4 at h
 split at h
 next d=>
  split at h
  next Q ht=>
   simp only[Option.some.injEq] at h
   have e:=I8 ht
   subst e
   have:=hf Q (by rw[h];exact hl)
   rw[h] at this;exact this
  ·cases h
 ·cases h
def Zm (f:Pt→Int→D×List Prop):List D→Option (D×List Prop)
 |[d, .v (.int .u32 k)]=>match Yp d with
  |some Q=>some (f Q k)
  |none=>none
 |_=>none
theorem Va {f:Pt→Int→D×List Prop} {g:FuncId} (hf:∀ Q k,aJ (f Q k).2→Kl g [Q.d,u32 k] (f Q k).1) (args res l) (h:Zm f args=some (res,l)) (hl:aJ l):Kl g args res:=by
 unfold Zm at h
 split at h
 next d k=>
  split at h
  next Q ht=>
   simp only[Option.some.injEq] at h
   have e:=I8 ht
   subst e
   have:=hf Q k (by rw[h];exact hl)
   rw[h] at this;exact this
  ·cases h
 ·cases h
def alW (Q:Pt):D×List Prop:=(i64 (sD Q),[Nc Q])
def ahL:List D→Option (D×List Prop):=ad4 alW
theorem ahC (args res l) (h:ahL args=some (res,l)) (hl:aJ l):Kl 15 args res:=GU (f:=alW) (fun Q h=>akU Q h.1) args res l h hl
theorem aii (args res l) (h:ahL args=some (res,l)) (hl:aJ l):Kl 16 args res:=GU (f:=alW) (fun Q h=>amb Q h.1) args res l h hl
def isf (Q:Pt) (u:Int):D×List Prop:=(bo (isB Q.rv u),[Q.rv.length≤200])
def isC:List D→Option (D×List Prop):=Zm isf
theorem akM (args res l) (h:isC args=some (res,l)) (hl:aJ l):Kl 19 args res:=Va (f:=isf) (fun Q u h=>aoS Q u h.1) args res l h hl
def XP3:aB:=aF 15 (.call ahL) (aF 16 (.call ahL) (aF 19 (.call isC) (aF 37 (.call vaC) (aF 27 (.call vaC) (aF 135 (.call xiC) X29)))))
theorem ah8:bT Pg XP3:=aj ahC (aj aii (aj akM (aj adu (aj acT (aj aee aqa)))))
def ZB (Q:Pt) (u:Int):Tr D:= .s (Nc Q) (.e (ah .neq (sD Q) 0) (.lf (D.aS [bo false,i64 (sD Q)])) (.s (Q.rv.length≤200) (.lf (D.aS [D.v (Value.bool (ah .geq (xiN Q.rv u) 0)),i64 0]))))
theorem aaP (Q:Pt) (u:Int) (res:D) (h0:Az res (ZB Q u) [true]) (h1:Az res (ZB Q u) [false]):Kl 32 [Q.d,u32 u] res:=fA (ah8) (ZB Q u) ⟨h0,h1⟩
def H9 (Q:Pt):Tr D:= .e (Q.U.great) (.p (.c 5) (.lf (bo true))) (.p (.c 1) (.e (Q.E.great) (.p (.c 2) (.lf (bo true))) (.p (.c 2) (.lf (D.v (Value.bool (ah .gtr (↑(rowLen [Col.ints .u32 Q.rv])) 100)))))))
theorem XE (Q:Pt) (res:D) (h0:Az res (H9 Q) [true]) (h1:Az res (H9 Q) [false,true]) (h2:Az res (H9 Q) [false,false]):Kl 8 [Q.d] res:=fA (ah8) (H9 Q) ⟨h0,fun e0=>⟨h1 e0,h2 e0⟩⟩
theorem ac9 (xs:List Int) (u:Int):ah .geq (xiN xs u) 0=decide (u∈xs):=by
 have h:xiN xs u<0↔∀ j,0≤j→j<0+xs.length→(u ==xs.getD j 0)=false:=dZ _ _
 by_cases m:u∈xs
 ·rw[decide_eq_true m,dV]
  obtain⟨j,hj,e⟩:=List.getElem_of_mem m
  by_cases q:xiN xs u<0
  ·have:=h.1 q j (by omega) (by omega)
   rw[List.getD_eq_getElem?_getD,List.getElem?_eq_getElem hj] at this
   simp[e] at this
  ·omega
 ·rw[decide_eq_false m,dS]
  have:xiN xs u<0:=h.2 fun j _ hj=>by
   have hj':j<xs.length:=by omega
   rw[beq_eq_false_iff_ne]
   intro e
   rw[List.getD_eq_getElem?_getD,List.getElem?_eq_getElem hj'] at e
   exact m (by rw[e];exact List.getElem_mem hj')
  omega
theorem adQ (xs:List Int) (u:Int):isB xs u=decide (u∈xs):=by
 rw[←ac9]
 unfold isB xiN
 have:(fun i=>xs.getD i 0 ==u)=fun i=>u ==xs.getD i 0:=by funext i;rw[Bool.eq_iff_iff];simp only[beq_iff_eq];exact eq_comm
 rw[this]
 by_cases q:iW (fun i=>u ==xs.getD i 0) xs.length 0<0
 ·rw[decide_eq_true q];symm;rw[Bool.not_true,dS];omega
 ·rw[decide_eq_false q];symm;rw[Bool.not_false,dV];omega
def rvB (Q:Pt) (u:Int):Bool:=decide (sD Q=0) && decide (u∈Q.rv)
theorem am5 (Q:Pt) (u:Int) (h:Nc Q):Kl 32 [Q.d,u32 u] (.aS [bo (rvB Q u),i64 (sD Q)]):=by
 unfold rvB
 refine aaP Q u _ ?_ ?_<;>dsimp only[Az,Rg,At,Tr.q,Tr.e,ZB]
 ·intro g;rw[aI] at g;exact⟨⟨h,trivial⟩,by rw[decide_eq_false g];rfl⟩
 ·intro g;rw[aQ] at g;exact⟨⟨h.2.2.2,h,trivial⟩,by rw[decide_eq_true g,ac9,g];rfl⟩
def adz (Q:Pt):Tr D:= .s (Lu Q.U) (.s (Lu Q.E) (.s ((ay.ints .u32 Q.rv).len=af [.ints .u32 Q.rv]) (.s (af [.ints .u32 Q.rv]*4≤17592186044416) (.q (af [.ints .u32 Q.rv]) (.q (af [.ints .i64 Q.E.no]) (.q (af [.ints .i64 Q.E.ps]) (.q (af [.ints .u32 Q.E.kx, .ints .i64 Q.E.px, .bools Q.E.ux]) (.q (af [.bools Q.E.us]) (.q (af [.ints .i64 Q.E.nx]) (.q (af [.ints .i64 Q.E.x1, .ints .i64 Q.E.x2, .ints .i64 Q.E.x3, .ints .i64 Q.E.x4, .ints .i64 Q.E.x5, .ints .u64 Q.E.x6]) (.q (af [.ints .u32 Q.E.ks]) (.q (af [.ints .i64 Q.U.no]) (.q (af [.ints .i64 Q.U.ps]) (.q (af [.ints .u32 Q.U.kx, .ints .i64 Q.U.px, .bools Q.U.ux]) (.q (af [.bools Q.U.us]) (.q (af [.ints .i64 Q.U.nx]) (.q (af [.ints .i64 Q.U.x1, .ints .i64 Q.U.x2, .ints .i64 Q.U.x3, .ints .i64 Q.U.x4, .ints .i64 Q.U.x5, .ints .u64 Q.U.x6]) (.q (af [.ints .u32 Q.U.ks]) (.lf (D.agg [u32 Q.te,i64 Q.b0,i64 Q.r0,i64 Q.p0,i64 Q.b1,i64 Q.r1,i64 Q.p1,i64 Q.b2,i64 Q.r2,i64 Q.p2,i64 Q.ob,i64 Q.orr,i64 Q.op,i64 Q.ov,i64 Q.oq,u64 Q.oa,i64 Q.U.n,D.oc [.ints .u32 Q.U.ks],D.oc [.ints .i64 Q.U.x1, .ints .i64 Q.U.x2, .ints .i64 Q.U.x3, .ints .i64 Q.U.x4, .ints .i64 Q.U.x5, .ints .u64 Q.U.x6],D.oc [.ints .i64 Q.U.nx],D.oc [.bools Q.U.us],i64 Q.U.fr,D.oc [.ints .u32 Q.U.kx, .ints .i64 Q.U.px, .bools Q.U.ux],D.oc [.ints .i64 Q.U.ps],D.oc [.ints .i64 Q.U.no],i64 Q.U.h,i64 Q.U.t,i64 Q.E.n,D.oc [.ints .u32 Q.E.ks],D.oc [.ints .i64 Q.E.x1, .ints .i64 Q.E.x2, .ints .i64 Q.E.x3, .ints .i64 Q.E.x4, .ints .i64 Q.E.x5, .ints .u64 Q.E.x6],D.oc [.ints .i64 Q.E.nx],D.oc [.bools Q.E.us],i64 Q.E.fr,D.oc [.ints .u32 Q.E.kx, .ints .i64 Q.E.px, .bools Q.E.ux],D.oc [.ints .i64 Q.E.ps],D.oc [.ints .i64 Q.E.no],i64 Q.E.h,i64 Q.E.t,D.oc [.ints .u32 Q.rv],u64 Q.ta,u64 Q.tl,u64 Q.tc]))))))))))))))))))))
theorem VG (Q:Pt) (res:D) (h0:Az res (adz Q) []):Kl 9 [Q.d] res:=fA (ah8) (adz Q) h0
def Tb.fo (T:Tb):List D:=[i64 T.n,ou T.ks, .oc [.ints .i64 T.x1, .ints .i64 T.x2, .ints .i64 T.x3, .ints .i64 T.x4, .ints .i64 T.x5, .ints .u64 T.x6],oi T.nx,ob T.us,i64 T.fr, .oc [.ints .u32 T.kx, .ints .i64 T.px, .bools T.ux],oi T.ps,oi T.no,i64 T.h,i64 T.t]
def Pt.o (Q:Pt):D:= .agg ([u32 Q.te,i64 Q.b0,i64 Q.r0,i64 Q.p0,i64 Q.b1,i64 Q.r1,i64 Q.p1,i64 Q.b2,i64 Q.r2,i64 Q.p2,i64 Q.ob,i64 Q.orr,i64 Q.op,i64 Q.ov,i64 Q.oq,u64 Q.oa] ++ (Q.U.fo ++ (Q.E.fo ++ [ou Q.rv,u64 Q.ta,u64 Q.tl,u64 Q.tc])))
def q0:Pt:=⟨0,0,0,0,0,0,0,0,0,0,0,0,0,0,0,0,t0,t0,[],0,0,0⟩
def YK (Q:Pt):Prop:=Lu Q.U∧Lu Q.E∧Q.rv.length≤200
theorem YJ {Q:Pt} (h:Nc Q):YK Q:=⟨Bf h.2.1,Bf h.2.2.1,h.2.2.2⟩
theorem ahM (Q:Pt) (h:YK Q):Kl 9 [Q.d] Q.o:=by
 obtain⟨h1,h2,h3⟩:=h
 exact VG Q _ ⟨⟨by simp only[af,ay.len];omega,rfl,h2,h1,trivial⟩,rfl⟩
def Pt.great (Q:Pt):Bool:=Q.U.great || (Q.E.great || decide (100<Q.rv.length))
theorem ahJ (Q:Pt):Kl 8 [Q.d] (bo Q.great):=by
 unfold Pt.great
 refine XE Q _ ?_ ?_ ?_<;>dsimp only[Az,Rg,At,Tr.q,Tr.e,H9]
 ·intro g;exact⟨trivial,by rw[g];rfl⟩
 ·intro g g2;exact⟨trivial,by rw[g,g2];rfl⟩
 ·intro g g2
  refine⟨trivial,?_⟩
  rw[g,g2,Bool.false_or,Bool.false_or]
  have:ah .gtr (Q.rv.length:Int) 100=decide (100<Q.rv.length):=by
   by_cases c:100<Q.rv.length
   ·rw[decide_eq_true c,fD];omega
   ·rw[decide_eq_false c,iD];omega
  rw[←this];rfl
def nlD:D:=D.v (Value.slice none 0 0)
def z11:List D:=[i64 0,nlD,nlD,nlD,nlD,i64 0,nlD,nlD,nlD,i64 0,i64 0]
def Pt.oN (Q:Pt):D:= .agg ([u32 Q.te,i64 Q.b0,i64 Q.r0,i64 Q.p0,i64 Q.b1,i64 Q.r1,i64 Q.p1,i64 Q.b2,i64 Q.r2,i64 Q.p2,i64 Q.ob,i64 Q.orr,i64 Q.op,i64 Q.ov,i64 Q.oq,u64 Q.oa] ++ (Q.U.fo ++ (Q.E.fo ++ [nlD,u64 Q.ta,u64 Q.tl,u64 Q.tc])))
def Vm:D:= .agg ([u32 0,i64 0,i64 0,i64 0,i64 0,i64 0,i64 0,i64 0,i64 0,i64 0,i64 0,i64 0,i64 0,i64 0,i64 0,u64 0] ++ (z11 ++ (z11 ++ [nlD,u64 0,u64 0,u64 0])))
theorem akb:jW Vm q0.o:=bH.agg (by
 repeat(first | refine .cons (.nil rfl) ?_ | refine .cons (.refl _) ?_)
 exact .refl _)
theorem ajv (Q:Pt):jW Q.oN ({ Q with rv:=[] }:Pt).o:=bH.agg (by
 repeat(first | refine .cons (.nil rfl) ?_ | refine .cons (.refl _) ?_)
 exact .refl _)
def aji (Q:Pt):D×List Prop:=(Q.o,[YK Q])
def ajV:List D→Option (D×List Prop):=ad4 aji
theorem ad6 (args res l) (h:ajV args=some (res,l)) (hl:aJ l):Kl 9 args res:=GU (f:=aji) (fun Q h=>ahM Q h.1) args res l h hl
def ajm (Q:Pt):D×List Prop:=(bo Q.great,[])
def ajk:List D→Option (D×List Prop):=ad4 ajm
theorem ae4 (args res l) (h:ajk args=some (res,l)) (hl:aJ l):Kl 8 args res:=GU (f:=ajm) (fun Q _=>ahJ Q) args res l h hl
def rvf (Q:Pt) (u:Int):D×List Prop:=(.aS [bo (rvB Q u),i64 (sD Q)],[Nc Q])
def rvC:List D→Option (D×List Prop):=Zm rvf
theorem ahP (args res l) (h:rvC args=some (res,l)) (hl:aJ l):Kl 32 args res:=Va (f:=rvf) (fun Q u h=>am5 Q u h.1) args res l h hl
def XP4:aB:=aF 9 (.call ajV) (aF 8 (.call ajk) (aF 32 (.call rvC) XP3))
theorem aod:bT Pg XP4:=aj ad6 (aj ae4 (aj ahP ah8))
theorem am3 {Q:Pt} (h:sD Q=0):ckP Q:=by
 by_cases c:ckP Q
 ·exact c
 ·rw[iR c] at h;omega
theorem ahc {b0 r0 p0 b1 r1 p1 b2 r2 p2:Int} (h:nV b0 r0 p0 b1 r1 p1 b2 r2 p2=true):iF b0 r0 p0=0∧iF b1 r1 p1=0∧iF b2 r2 p2=0:=by
 unfold nV at h
 simp only[Bool.and_eq_true,decide_eq_true_eq] at h
 exact h
def OM (Q:Pt):=Q.b2 ==Q.b2 && (Q.r2 ==Q.r2 && (Q.p2 ==Q.p2 && true)) && true
def QH (Q:Pt):=Q.b1 ==Q.b1 && (Q.r1 ==Q.r1 && (Q.p1 ==Q.p1 && true)) && (OM Q)
def QJ (Q:Pt):=Q.b0 ==Q.b0 && (Q.r0 ==Q.r0 && (Q.p0 ==Q.p0 && true)) && (QH Q)
def Qy (Q:Pt):=Q.ob ==Q.ob && (Q.orr ==Q.orr && (Q.op ==Q.op && true)) && (Q.ov ==Q.ov && (Q.oq ==Q.oq && (Q.oa ==Q.oa && true)))
def zQ (Q:Pt):Tr D:= .e (ah .eql Q.te Q.te) (.p (.c 3) (.e (QJ Q) (.p (.c 3) (.e (Qy Q) (.p (.c 13) (.s (Lu Q.U) (.q (Q.U) (.s (Lu Q.E) (.q (Q.E) (.s (Q.rv.length≤200) (.e (Rq Q.rv Q.rv) (.p (.c 3) (.lf (D.v (Value.bool (Q.ta ==Q.ta && (Q.tl ==Q.tl && (Q.tc ==Q.tc && true))))))) (.p (.c 3) (.lf (bo false)))))))))) (.p (.c 18) (.lf (bo false))))) (.p (.c 23) (.lf (bo false))))) (.p (.c 28) (.lf (bo false)))
theorem Yc (Q:Pt) (res:D) (h0:Az res (zQ Q) [true,true,true,true]) (h1:Az res (zQ Q) [true,true,true,false]) (h2:Az res (zQ Q) [true,true,false]) (h3:Az res (zQ Q) [true,false]) (h4:Az res (zQ Q) [false]):Kl 14 [Q.d,Q.d] res:=fA (aod) (zQ Q) ⟨fun e0=>⟨fun e1=>⟨fun e2=>⟨h0 e0 e1 e2,h1 e0 e1 e2⟩,h2 e0 e1⟩,h3 e0⟩,h4⟩
theorem ai0 (Q:Pt) (h:YK Q):Kl 14 [Q.d,Q.d] (bo true):=by
 obtain⟨h1,h2,h3⟩:=h
 refine Yc Q _ ?_ ?_ ?_ ?_ ?_<;>dsimp only[Az,Rg,At,Tr.q,Tr.e,zQ]
 ·intro _ _ _ _;exact⟨⟨h3,h2,h1,trivial⟩,by simp⟩
 ·intro _ _ _ g;simp[Rq] at g
 ·intro _ _ g;simp[Qy,QJ,QH,OM] at g
 ·intro _ g;simp[Qy,QJ,QH,OM] at g
 ·intro g;rw[bV] at g;exact absurd rfl g
def acF (f:Pt→Pt→D×List Prop):List D→Option (D×List Prop)
 |[d,e]=>match Yp d,Yp e with
  |some Q,some R=>some (f Q R)
  |_,_=>none
 |_=>none
theorem aeo {f:Pt→Pt→D×List Prop} {g:FuncId} (hf:∀ Q R,aJ (f Q R).2→Kl g [Q.d,R.d] (f Q R).1) (args res l) (h:acF f args=some (res,l)) (hl:aJ l):Kl g args res:=by
 unfold acF at h
 split at h
 next d e=>
  split at h
  next Q R hq hr=>
   simp only[Option.some.injEq] at h
   have e1:=I8 hq
   have e2:=I8 hr
   subst e1 e2
   have:=hf Q R (by rw[h];exact hl)
   rw[h] at this;exact this
  ·cases h
 ·cases h
def ajc (Q R:Pt):D×List Prop:=(bo true,[Q=R,YK Q])
def ajg:List D→Option (D×List Prop):=acF ajc
theorem aeE (args res l) (h:ajg args=some (res,l)) (hl:aJ l):Kl 14 args res:=aeo (f:=ajc) (fun Q R h=>by obtain⟨rfl,w,_⟩:=h;exact ai0 Q w) args res l h hl
end TableS
end
