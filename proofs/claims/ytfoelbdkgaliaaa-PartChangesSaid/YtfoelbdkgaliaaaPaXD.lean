/- What the functions compute, and the law. No condition. -/
import Derived.Test.YtfoelbdkgaliaaaPwMK
import Derived.Test.YtfoelbdkgaliaaaDamYA
import Derived.Test.YtfoelbdkgaliaaaPaVT
set_option linter.unusedSectionVars false
set_option linter.unusedVariables false
set_option linter.unusedSimpArgs false
section
namespace MeterS
open Go Go.Dam Go.Proofs
set_option maxRecDepth 1000000
def bkE (b r p v q:Int):Int:=if DT b r p=0∧0≤v∧v≤b∧0≤q∧q<p∧¬ (v=b∧0<q) then 0 else 8
theorem SN {b r p:Int} (h:DT b r p=0):1≤b∧b≤1000000000∧0≤r∧r≤1000000000∧1≤p∧p≤1000000000:=by
 unfold DT at h;split at h
 ·cases h
 ·omega
def J4 (r q t n:Int):Int:=(n - t)*r+q
def Lr (b r p v q t n:Int):Int:=if n≤t then v else if b - v≤J4 r q t n / p then b else v+J4 r q t n / p
def Uf (b r p v q t n:Int):Int:=if n≤t then q else if b - v≤J4 r q t n / p then 0 else J4 r q t n%p
def CU (t n:Int):Int:=if n≤t then t else n
theorem BZ (a:Int):a / 18446744073709551616*18446744073709551616+a%18446744073709551616=a:=Int.ediv_mul_add_emod a _
theorem Qx {b r p v q:Int} (h:bkE b r p v q=0):DT b r p=0∧0≤v∧v≤b∧0≤q∧q<p∧¬ (v=b∧0<q):=by
 unfold bkE at h;split at h
 ·assumption
 ·cases h
theorem XZ {t r:Int} (t0:0≤t) (t1:t<18446744073709551616) (r0:0≤r) (r1:r≤1000000000):0≤t*r∧t*r≤18446744073709551615000000000:=by
 refine⟨Int.mul_nonneg t0 r0,?_⟩
 have:=Int.mul_le_mul (show t≤18446744073709551615 by omega) r1 r0 (by decide)
 exact this
variable [gB]
noncomputable def kE (r q t n:Int):Int:=if aj .sub .u64 n t*IntKind.u64.wrap r / 18446744073709551616*18446744073709551616+aj .sub .u64 n t*IntKind.u64.wrap r%18446744073709551616+(0*18446744073709551616+IntKind.u64.wrap q)<340282366920938463463374607431768211456 then aj .sub .u64 n t*IntKind.u64.wrap r / 18446744073709551616*18446744073709551616+aj .sub .u64 n t*IntKind.u64.wrap r%18446744073709551616+(0+IntKind.u64.wrap q) else 0
noncomputable def yY (r q t n:Int):=(kE r q t n) / 18446744073709551616*18446744073709551616+(kE r q t n)%18446744073709551616
noncomputable def zq (r q t n:Int):Int:=if aj .sub .u64 n t*IntKind.u64.wrap r / 18446744073709551616*18446744073709551616+aj .sub .u64 n t*IntKind.u64.wrap r%18446744073709551616+(0*18446744073709551616+IntKind.u64.wrap q)<340282366920938463463374607431768211456 then aj .sub .u64 n t*IntKind.u64.wrap r / 18446744073709551616*18446744073709551616+aj .sub .u64 n t*IntKind.u64.wrap r%18446744073709551616+(0*18446744073709551616+IntKind.u64.wrap q) else 0
noncomputable def yQ (r q t n:Int):=(zq r q t n) / 18446744073709551616*18446744073709551616+(zq r q t n)%18446744073709551616
noncomputable def Iw (r p q t n:Int):Int:=if(yQ r q t n) / IntKind.u64.wrap p / 18446744073709551616=0 then 0 else 16
noncomputable def zD (r p q t n:Int):Int:=if(yQ r q t n) / IntKind.u64.wrap p / 18446744073709551616=0 then(yY r q t n) / IntKind.u64.wrap p%18446744073709551616 else 0
noncomputable def Ii (b r p v q t n:Int):=ai .geq (zD r p q t n) (IntKind.u64.wrap (aj .sub .i64 b v))
noncomputable def lT (b:Int) (r:Int) (p:Int) (v:Int) (q:Int) (t:Int) (n:Int):Tr D:= .d (ai .leq n t) (fun e0=> .lf (D.agg [i64 b,i64 r,i64 p,i64 v,i64 q,u64 t])) (fun e0=> .s (IntKind.u64.wrap r<18446744073709551616) (.s (0≤IntKind.u64.wrap r) (.s (aj .sub .u64 n t<18446744073709551616) (.s (0≤aj .sub .u64 n t) (.s (IntKind.u64.wrap q<18446744073709551616) (.s (0≤IntKind.u64.wrap q) (.s ((0:Int)<(18446744073709551616:Int)) (.s ((0:Int)≤(0:Int)) (.s (aj .sub .u64 n t*IntKind.u64.wrap r%18446744073709551616<18446744073709551616) (.s (0≤aj .sub .u64 n t*IntKind.u64.wrap r%18446744073709551616) (.s (aj .sub .u64 n t*IntKind.u64.wrap r / 18446744073709551616<18446744073709551616) (.s (0≤aj .sub .u64 n t*IntKind.u64.wrap r / 18446744073709551616) (.s ((kE r q t n)%18446744073709551616<18446744073709551616) (.s (0≤(kE r q t n)%18446744073709551616) (.s ((kE r q t n) / 18446744073709551616<18446744073709551616) (.s (0≤(kE r q t n) / 18446744073709551616) (.s (IntKind.u64.wrap p<4294967296) (.s (0<IntKind.u64.wrap p) (.d (ai .neq (Iw r p q t n) 0) (fun e1=> .p (.c 8) (.lf (D.agg [i64 b,i64 r,i64 p,i64 b,i64 0,u64 n]))) (fun e1=> .p (.c 7) (.d (Ii b r p v q t n) (fun e2=> .lf (D.agg [i64 b,i64 r,i64 p,i64 b,i64 0,u64 n])) (fun e2=> .lf (D.agg [i64 b,i64 r,i64 p,i64 (aj .add .i64 v (IntKind.i64.wrap (zD r p q t n))),i64 (IntKind.i64.wrap ((yY r q t n)%IntKind.u64.wrap p)),u64 n])))))))))))))))))))))))
theorem Yt (b r p v q t n:Int):Leaves (fun l=>cu Try.prog (X6) 100000 l 41 [D.agg [i64 b,i64 r,i64 p,i64 v,i64 q,u64 t],u64 n]) (lT b r p v q t n) [] []:=by refine⟨fun _=>?_,fun _=>⟨fun _=>?_,fun _=>⟨fun _=>?_,fun _=>?_⟩⟩⟩<;>(show _=_;kernel_rfl)
theorem xY (b r p v q t n:Int) (res:D) (h0:At (fun r=>res=r) (lT b r p v q t n) [true] True) (h1:At (fun r=>res=r) (lT b r p v q t n) [false,true] True) (h2:At (fun r=>res=r) (lT b r p v q t n) [false,false,true] True) (h3:At (fun r=>res=r) (lT b r p v q t n) [false,false,false] True):CallsD Try.prog 41 [D.agg [i64 b,i64 r,i64 p,i64 v,i64 q,u64 t],u64 n] res:=au (hX6) (Yt b r p v q t n) ⟨fun e0=>h0 e0,fun e0=>⟨fun e1=>h1 e0 e1,fun e1=>⟨fun e2=>h2 e0 e1 e2,fun e2=>h3 e0 e1 e2⟩⟩⟩
theorem VX (b r p v q t n:Int) (h:bkE b r p v q=0) (t0:0≤t) (t1:t<18446744073709551616) (n0:0≤n) (n1:n<18446744073709551616):
  CallsD Try.prog 41 [.agg [i64 b,i64 r,i64 p,i64 v,i64 q,u64 t],u64 n] (.agg [i64 b,i64 r,i64 p,i64 (Lr b r p v q t n),i64 (Uf b r p v q t n),u64 (CU t n)]):=by
 obtain⟨hl,v0,vb,q0,qp,_⟩:=Qx h
 obtain⟨b0,b1,r0,r1,p0,p1⟩:=SN hl
 by_cases hn:n≤t
 ·refine xY b r p v q t n _ ?_ ?_ ?_ ?_<;>dsimp only[At,Tr.q,lT]
  ·intro _;refine⟨trivial,?_⟩;unfold Lr Uf CU;rw[if_pos hn,if_pos hn,if_pos hn]
  all_goals
   intro a;rw[SI] at a;omega
 ·have wr:IntKind.wrap .u64 r=r:=dP (by omega) (by omega)
  have wp:IntKind.wrap .u64 p=p:=dP (by omega) (by omega)
  have wq:IntKind.wrap .u64 q=q:=dP (by omega) (by omega)
  have es:aj .sub .u64 n t=n - t:=by rw[eY,wrap_u64];omega
  have eb:aj .sub .i64 b v=b - v:=by rw[eY,aT (by omega) (by omega)]
  have wb:IntKind.wrap .u64 (b - v)=b - v:=dP (by omega) (by omega)
  obtain⟨m0,m1⟩:=XZ (t:=n - t) (r:=r) (by omega) (by omega) r0 r1
  have hS:(n - t)*r+q<340282366920938463463374607431768211456:=by omega
  have d0:0≤((n - t)*r+q) / p:=Int.ediv_nonneg (by omega) (by omega)
  have d1:((n - t)*r+q) / p≤((n - t)*r+q):=Int.ediv_le_self _ (by omega)
  have e0:=Int.emod_nonneg (((n - t)*r+q)) (show p≠0 by omega)
  have e1:=Int.emod_lt_of_pos (((n - t)*r+q)) (show 0<p by omega)
  have hT:CU t n=n:=by unfold CU;rw[if_neg hn]
  have hA:b - v≤((n - t)*r+q) / p→Lr b r p v q t n=b∧Uf b r p v q t n=0:=fun g=>by
   have g:b - v≤J4 r q t n / p:=g
   unfold Lr Uf;rw[if_neg hn,if_neg hn,if_pos g,if_pos g];exact⟨rfl,rfl⟩
  have hB:¬ b - v≤((n - t)*r+q) / p→Lr b r p v q t n=v+((n - t)*r+q) / p∧Uf b r p v q t n=((n - t)*r+q)%p:=fun g=>by
   have g:¬ b - v≤J4 r q t n / p:=g
   unfold Lr Uf;rw[if_neg hn,if_neg hn,if_neg g,if_neg g];exact⟨rfl,rfl⟩
  refine xY b r p v q t n _ ?_ ?_ ?_ ?_<;>dsimp only[At,Tr.q,lT]
  all_goals simp only[Ii,zD,Iw,yQ,zq,yY,kE,wr,wp,wq,es,eb,wb,BZ,Int.zero_mul,Int.zero_add,if_pos hS,ag3,SI]
  ·intro a;omega
  ·intro _ a
   have g:¬ ((n - t)*r+q) / p / 18446744073709551616=0:=fun g=>by simp only[if_pos g] at a;cases a
   refine⟨by simp only[and_true];omega,?_⟩
   obtain⟨z1,z2⟩:=hA (by omega)
   rw[z1,z2,hT]
  ·intro _ a a2
   have g:((n - t)*r+q) / p / 18446744073709551616=0:=by
    by_cases g:((n - t)*r+q) / p / 18446744073709551616=0
    ·exact g
    ·simp only[if_neg g] at a;cases a
   simp only[if_pos g,iQ] at a2
   refine⟨by simp only[and_true];omega,?_⟩
   obtain⟨z1,z2⟩:=hA (by omega)
   rw[z1,z2,hT]
  ·intro _ a a2
   have g:((n - t)*r+q) / p / 18446744073709551616=0:=by
    by_cases g:((n - t)*r+q) / p / 18446744073709551616=0
    ·exact g
    ·simp only[if_neg g] at a;cases a
   simp only[if_pos g,iP] at a2 ⊢
   refine⟨by simp only[and_true];omega,?_⟩
   obtain⟨z1,z2⟩:=hB (by omega)
   rw[z1,z2,hT]
   have g1:((n - t)*r+q) / p%18446744073709551616=((n - t)*r+q) / p:=by omega
   have g2:((n - t)*r+q) / p<b - v:=by omega
   rw[g1,aT (n:=((n - t)*r+q) / p) (by omega) (by omega),aT (n:=((n - t)*r+q)%p) (by omega) (by omega),dX,aT (by omega) (by omega)]
noncomputable def jD (r q t n:Int):Int:=if aj .sub .u64 n t*IntKind.u64.wrap r / 18446744073709551616*18446744073709551616+aj .sub .u64 n t*IntKind.u64.wrap r%18446744073709551616+(0*18446744073709551616+IntKind.u64.wrap q)<340282366920938463463374607431768211456 then aj .sub .u64 n t*IntKind.u64.wrap r / 18446744073709551616*18446744073709551616+aj .sub .u64 n t*IntKind.u64.wrap r%18446744073709551616+(0+IntKind.u64.wrap q) else 0
noncomputable def jB (r q t n:Int):=(jD r q t n) / 18446744073709551616*18446744073709551616+(jD r q t n)%18446744073709551616
noncomputable def zi (r p q t n:Int):=(jB r q t n) / IntKind.u64.wrap p / 18446744073709551616*18446744073709551616+(jB r q t n) / IntKind.u64.wrap p%18446744073709551616
noncomputable def zB (b r p v q t n:Int):=nM (zi r p q t n) (0+IntKind.u64.wrap (aj .sub .i64 b v))
noncomputable def oG (b:Int) (r:Int) (p:Int) (v:Int) (q:Int) (t:Int) (n:Int):Tr D:= .d (ai .lss n t) (fun e0=> .lf (D.agg [i64 b,i64 r,i64 p,i64 v,i64 q,u64 t])) (fun e0=> .s (IntKind.u64.wrap r<18446744073709551616) (.s (0≤IntKind.u64.wrap r) (.s (aj .sub .u64 n t<18446744073709551616) (.s (0≤aj .sub .u64 n t) (.s (IntKind.u64.wrap q<18446744073709551616) (.s (0≤IntKind.u64.wrap q) (.s ((0:Int)<(18446744073709551616:Int)) (.s ((0:Int)≤(0:Int)) (.s (aj .sub .u64 n t*IntKind.u64.wrap r%18446744073709551616<18446744073709551616) (.s (0≤aj .sub .u64 n t*IntKind.u64.wrap r%18446744073709551616) (.s (aj .sub .u64 n t*IntKind.u64.wrap r / 18446744073709551616<18446744073709551616) (.s (0≤aj .sub .u64 n t*IntKind.u64.wrap r / 18446744073709551616) (.s ((jD r q t n)%18446744073709551616<18446744073709551616) (.s (0≤(jD r q t n)%18446744073709551616) (.s ((jD r q t n) / 18446744073709551616<18446744073709551616) (.s (0≤(jD r q t n) / 18446744073709551616) (.s (IntKind.u64.wrap p<4294967296) (.s (0<IntKind.u64.wrap p) (.s (IntKind.u64.wrap (aj .sub .i64 b v)<18446744073709551616) (.s (0≤IntKind.u64.wrap (aj .sub .i64 b v)) (.s ((jB r q t n) / IntKind.u64.wrap p%18446744073709551616<18446744073709551616) (.s (0≤(jB r q t n) / IntKind.u64.wrap p%18446744073709551616) (.d (ai .geq (zB b r p v q t n) 0) (fun e1=> .lf (D.agg [i64 b,i64 r,i64 p,i64 b,i64 0,u64 n])) (fun e1=> .lf (D.agg [i64 b,i64 r,i64 p,i64 (aj .add .i64 v (IntKind.i64.wrap ((jB r q t n) / IntKind.u64.wrap p%18446744073709551616))),i64 (IntKind.i64.wrap ((jB r q t n)%IntKind.u64.wrap p)),u64 n])))))))))))))))))))))))))
theorem Xz (b r p v q t n:Int):Leaves (fun l=>cu Try.prog (X6) 100000 l 47 [D.agg [i64 b,i64 r,i64 p,i64 v,i64 q,u64 t],u64 n]) (oG b r p v q t n) [] []:=by refine⟨fun _=>?_,fun _=>⟨fun _=>?_,fun _=>?_⟩⟩<;>(show _=_;kernel_rfl)
theorem yu (b r p v q t n:Int) (res:D) (h0:At (fun r=>res=r) (oG b r p v q t n) [true] True) (h1:At (fun r=>res=r) (oG b r p v q t n) [false,true] True) (h2:At (fun r=>res=r) (oG b r p v q t n) [false,false] True):CallsD Try.prog 47 [D.agg [i64 b,i64 r,i64 p,i64 v,i64 q,u64 t],u64 n] res:=au (hX6) (Xz b r p v q t n) ⟨fun e0=>h0 e0,fun e0=>⟨fun e1=>h1 e0 e1,fun e1=>h2 e0 e1⟩⟩
theorem Sr {b r p v q t:Int} (h:bkE b r p v q=0):(if b - v≤J4 r q t t / p then b else v+J4 r q t t / p)=v∧(if b - v≤J4 r q t t / p then 0 else J4 r q t t%p)=q:=by
 obtain⟨hl,v0,vb,q0,qp,hq⟩:=Qx h
 have e:J4 r q t t=q:=by unfold J4;rw[Int.sub_self,Int.zero_mul];omega
 have d:q / p=0:=Int.ediv_eq_zero_of_lt q0 qp
 have m:q%p=q:=Int.emod_eq_of_lt q0 qp
 rw[e,d,m]
 constructor<;>split<;>omega
theorem Vw (b r p v q t n:Int) (h:bkE b r p v q=0) (t0:0≤t) (t1:t<18446744073709551616) (n0:0≤n) (n1:n<18446744073709551616):
  CallsD Try.prog 47 [.agg [i64 b,i64 r,i64 p,i64 v,i64 q,u64 t],u64 n] (.agg [i64 b,i64 r,i64 p,i64 (Lr b r p v q t n),i64 (Uf b r p v q t n),u64 (CU t n)]):=by
 obtain⟨hl,v0,vb,q0,qp,hqq⟩:=Qx h
 obtain⟨b0,b1,r0,r1,p0,p1⟩:=SN hl
 by_cases hn:n<t
 ·refine yu b r p v q t n _ ?_ ?_ ?_<;>dsimp only[At,Tr.q,oG]
  ·intro _;refine⟨trivial,?_⟩;unfold Lr Uf CU;rw[if_pos (by omega),if_pos (by omega),if_pos (by omega)]
  all_goals
   intro a;rw[aX] at a;omega
 ·have wr:IntKind.wrap .u64 r=r:=dP (by omega) (by omega)
  have wp:IntKind.wrap .u64 p=p:=dP (by omega) (by omega)
  have wq:IntKind.wrap .u64 q=q:=dP (by omega) (by omega)
  have es:aj .sub .u64 n t=n - t:=by rw[eY,wrap_u64];omega
  have eb:aj .sub .i64 b v=b - v:=by rw[eY,aT (by omega) (by omega)]
  have wb:IntKind.wrap .u64 (b - v)=b - v:=dP (by omega) (by omega)
  obtain⟨m0,m1⟩:=XZ (t:=n - t) (r:=r) (by omega) (by omega) r0 r1
  have hS:(n - t)*r+q<340282366920938463463374607431768211456:=by omega
  have d0:0≤((n - t)*r+q) / p:=Int.ediv_nonneg (by omega) (by omega)
  have d1:((n - t)*r+q) / p≤((n - t)*r+q):=Int.ediv_le_self _ (by omega)
  have e0:=Int.emod_nonneg (((n - t)*r+q)) (show p≠0 by omega)
  have e1:=Int.emod_lt_of_pos (((n - t)*r+q)) (show 0<p by omega)
  have hT:CU t n=n:=by unfold CU;split<;>omega
  have hN:J4 r q t n=(n - t)*r+q:=rfl
  have hV:Lr b r p v q t n=if b - v≤J4 r q t n / p then b else v+J4 r q t n / p:=by
   unfold Lr
   by_cases e:n≤t
   ·obtain rfl:n=t:=by omega
    rw[if_pos e];exact(Sr h).1.symm
   ·rw[if_neg e]
  have hQ:Uf b r p v q t n=if b - v≤J4 r q t n / p then 0 else J4 r q t n%p:=by
   unfold Uf
   by_cases e:n≤t
   ·obtain rfl:n=t:=by omega
    rw[if_pos e];exact(Sr h).2.symm
   ·rw[if_neg e]
  generalize hM:(n - t)*r=m at *
  have w:m / 18446744073709551616*18446744073709551616+m%18446744073709551616=m:=BZ m
  have k0:jD r q t n=m+q:=by unfold jD;rw[es,wr,wq,hM,w,if_pos (by omega)];omega
  have k1:jB r q t n=m+q:=by unfold jB;rw[k0];exact BZ _
  have k2:zi r p q t n=(m+q) / p:=by unfold zi;rw[k1,wp];exact BZ _
  have k3:zB b r p v q t n=nM ((m+q) / p) (b - v):=by unfold zB;rw[k2,eb,wb,Int.zero_add]
  refine yu b r p v q t n _ ?_ ?_ ?_<;>dsimp only[At,Tr.q,oG]
  all_goals simp only[k0,k1,k2,k3,es,eb,wr,wp,wq,wb,hM,iQ,iP,aQ,aX]
  ·intro a;omega
  ·intro _ a
   have g:b - v≤J4 r q t n / p:=by rw[hN];unfold nM at a;(repeat' split at a)<;>omega
   refine⟨by simp only[and_true];omega,?_⟩
   rw[hV,hQ,hT,if_pos g,if_pos g]
  ·intro _ a
   have g:¬ b - v≤J4 r q t n / p:=by rw[hN];unfold nM at a;(repeat' split at a)<;>omega
   refine⟨by simp only[and_true];omega,?_⟩
   rw[hV,hQ,hT,if_neg g,if_neg g,hN]
   rw[hN] at g
   have g1:(m+q) / p%18446744073709551616=(m+q) / p:=by omega
   rw[g1,aT (n:=(m+q) / p) (by omega) (by omega),aT (n:=(m+q)%p) (by omega) (by omega),dX,aT (by omega) (by omega)]
end MeterS
end

section
namespace TableS
open Go Go.Dam Go.Proofs
set_option maxRecDepth 1000000
end TableS
end

section
namespace TableS
open Go Go.Dam Go.Proofs
set_option maxRecDepth 1000000
end TableS
end

section
namespace TableS
open Go Go.Dam Go.Proofs
set_option maxRecDepth 1000000
end TableS
end

section
namespace TableS
open Go Go.Dam Go.Proofs
set_option maxRecDepth 1000000
noncomputable def X21:aB:=X20
theorem ajp:bG Try.prog X21:=ajx
end TableS
end

section
namespace TableS
open Go Go.Dam Go.Proofs
set_option maxRecDepth 1000000
end TableS
end

section
namespace TableS
open Go Go.Dam Go.Proofs
set_option maxRecDepth 1000000
noncomputable def X22:aB:=X21
theorem aj0:bG Try.prog X22:=ajp
end TableS
end

section
namespace TableS
open Go Go.Dam Go.Proofs
set_option maxRecDepth 1000000
end TableS
end

section
namespace TableS
open Go Go.Dam Go.Proofs
set_option maxRecDepth 1000000
noncomputable def X23:aB:=X22
theorem Vk:bG Try.prog X23:=aj0
end TableS
end

section
namespace TableS
open Go Go.Dam Go.Proofs
set_option maxRecDepth 1000000
end TableS
end

section
namespace TableS
open Go Go.Dam Go.Proofs
set_option maxRecDepth 1000000
def zr (n:Nat):List Int:=List.replicate n 0
end TableS
end

section
namespace TableS
open Go Go.Dam Go.Proofs
set_option maxRecDepth 1000000
end TableS
end

section
namespace TableS
open Go Go.Dam Go.Proofs
set_option maxRecDepth 1000000
noncomputable def SA (nx:List Int) (us:List Bool) (fr:Int) (o:Bool) (i:Int):Cs:=⟨TT.of [(2,D.ptr 64 0),(3,D.ptr 96 0),(4,bo o),(5,i64 i)],66,[],[(64,BX.cells [ri nx,rb us,i64 fr] false),(96,BX.cells [ri nx,rb us,i64 fr] false)],none,0⟩
noncomputable def SL (kx px:List Int) (ux:List Bool) (o:Bool) (i:Int):Cs:=⟨TT.of [(0,cc kx px ux),(1,cc kx px ux),(4,bo o),(5,i64 i)],26,[],[],none,0⟩
noncomputable def RU (nx:List Int) (us:List Bool) (fr:Int) (o:Bool) (i:Int):Cs:=⟨TT.of [(2,D.ptr 64 0),(3,D.ptr 96 0),(4,bo o),(6,i64 i)],66,[],[(64,BX.cells [ri nx,rb us,i64 fr] false),(96,BX.cells [ri nx,rb us,i64 fr] false)],none,0⟩
noncomputable def TJ (T:Tb) (o:Bool) (i:Int):Cs:=⟨TT.of [(2,D.ptr 64 0),(3,D.ptr 96 0),(4,bo o),(5,i64 i)],70,[],[(64,T.b),(96,T.b)],none,0⟩
def s3C:List D→Option (D×List Prop)
 |[.agg [.rc [.ints .i64 n1], .rc [.bools u1], .v (.int .i64 f1)], .agg [.rc [.ints .i64 n2], .rc [.bools u2], .v (.int .i64 f2)]]=>some (bo true,[n1=n2∧u1=u2∧f1=f2∧n1.length≤200∧u1.length≤200])
 |_=>none
def s4C:List D→Option (D×List Prop)
 |[.rc [.ints .u32 k1, .ints .i64 p1, .bools u1], .rc [.ints .u32 k2, .ints .i64 p2, .bools u2]]=>some (bo true,[k1=k2∧p1=p2∧u1=u2∧k1.length≤200])
 |_=>none
noncomputable def X25:aB:=aJ 54 (.call s3C) (aJ 55 (.call s4C) X23)
end TableS
end

section
namespace TableS
open Go Go.Dam Go.Proofs
set_option maxRecDepth 1000000
noncomputable def Zp (px:List Int) (ux:List Bool) (i:Int):=px.getD i.toNat 0 ==px.getD i.toNat 0 && (ux.getD i.toNat false ==ux.getD i.toNat false && true)
noncomputable def Xu (kx px:List Int) (ux:List Bool) (i:Int):=kx.getD i.toNat 0 ==kx.getD i.toNat 0 && (Zp px ux i)
noncomputable def Ht (kx:List Int) (px:List Int) (ux:List Bool) (o:Bool) (i:Int):Tr (Ex×Cs):= .d (ai .lss i ↑(kx.length)) (fun e0=> .s (decide (i< ↑(kx.length))=true) (.s (decide (0≤i)=true) (.s (decide (i< ↑(kx.length))=true) (.s (decide (0≤i)=true) (.d (!(Xu kx px ux i)) (fun e1=> .lf (Ex.ret,(SL (kx) (px) (ux) (false) (i)))) (fun e1=> .lf (Ex.normal,(SL (kx) (px) (ux) (o) (aj .add .i64 i 1))))))))) (fun e0=> .lf (Ex.exit 0,(SL (kx) (px) (ux) (o) (i))))
theorem aht (kx px:List Int) (ux:List Bool) (o:Bool) (i:Int):Leaves (bT Try.prog (X23) 100000 (af Try.prog 55 0) [[0,1,4,5]] [] (SL kx px ux o i)) (Ht kx px ux o i) [] []:=by refine⟨fun _=>⟨fun _=>?_,fun _=>?_⟩,fun _=>?_⟩<;>(show _=_;kernel_rfl)
theorem N9 (kx:List Int) (px:List Int) (ux:List Bool) (o:Bool) (i:Int) (σ:St) (e:Ex) (h0:At (RG Try.prog (af Try.prog 55 0) e σ) (Ht kx px ux o i) [true,true] True) (h1:At (RG Try.prog (af Try.prog 55 0) e σ) (Ht kx px ux o i) [true,false] True) (h2:At (RG Try.prog (af Try.prog 55 0) e σ) (Ht kx px ux o i) [false] True):Runs Try.prog (CallsD Try.prog) (.rounds (af Try.prog 55 0)) (SL kx px ux o i).abs e σ:=aO (Vk) (aht kx px ux o i) ⟨fun e0=>⟨fun e1=>h0 e0 e1,fun e1=>h1 e0 e1⟩,fun e0=>h2 e0⟩
noncomputable def Tz (kx:List Int) (px:List Int) (ux:List Bool) (i:Int):Tr D:= .d (ai .neq ↑(kx.length) ↑(kx.length)) (fun e0=> .lf (bo false)) (fun e0=> .p (.l [[0,1,4,5]] [] (SL kx px ux false 0) (Ex.exit 0) (SL kx px ux false i)) (.s (Runs Try.prog (CallsD Try.prog) (.code (.loop (af Try.prog 55 0))) (SL kx px ux false 0).abs (Ex.exit 0) (SL kx px ux false i).abs) (.k ((SL kx px ux false 0=SL kx px ux false 0)) rfl (.lf (bo true)))))
theorem aiw (kx px:List Int) (ux:List Bool) (i:Int):Leaves (fun l=>cu Try.prog (X23) 100000 l 55 [cc kx px ux,cc kx px ux]) (Tz kx px ux i) [] []:=by refine⟨fun _=>?_,fun _=>?_⟩<;>(show _=_;kernel_rfl)
theorem VB (kx px:List Int) (ux:List Bool) (i:Int) (res:D) (h0:At (fun r=>res=r) (Tz kx px ux i) [true] True) (h1:At (fun r=>res=r) (Tz kx px ux i) [false] True):CallsD Try.prog 55 [cc kx px ux,cc kx px ux] res:=au (Vk) (aiw kx px ux i) ⟨fun e0=>h0 e0,fun e0=>h1 e0⟩
noncomputable def H9 (nx:List Int) (us:List Bool) (fr:Int) (o:Bool) (i:Int):Tr (Ex×Cs):= .d (ai .lss i ↑(nx.length)) (fun e0=> .s (decide (i< ↑(nx.length))=true) (.s (decide (0≤i)=true) (.s (decide (i< ↑(nx.length))=true) (.s (decide (0≤i)=true) (.d (ai .neq (nx.getD i.toNat 0) (nx.getD i.toNat 0)) (fun e1=> .lf (Ex.ret,(SA (nx) (us) (fr) (false) (i)))) (fun e1=> .lf (Ex.normal,(SA (nx) (us) (fr) (o) (aj .add .i64 i 1))))))))) (fun e0=> .lf (Ex.exit 0,(SA (nx) (us) (fr) (o) (i))))
theorem aiy (nx:List Int) (us:List Bool) (fr:Int) (o:Bool) (i:Int):Leaves (bT Try.prog (X23) 100000 (af Try.prog 54 0) [[2,3,4,5]] [(64,64),(96,96)] (SA nx us fr o i)) (H9 nx us fr o i) [] []:=by refine⟨fun _=>⟨fun _=>?_,fun _=>?_⟩,fun _=>?_⟩<;>(show _=_;kernel_rfl)
theorem Nz (nx:List Int) (us:List Bool) (fr:Int) (o:Bool) (i:Int) (σ:St) (e:Ex) (h0:At (RG Try.prog (af Try.prog 54 0) e σ) (H9 nx us fr o i) [true,true] True) (h1:At (RG Try.prog (af Try.prog 54 0) e σ) (H9 nx us fr o i) [true,false] True) (h2:At (RG Try.prog (af Try.prog 54 0) e σ) (H9 nx us fr o i) [false] True):Runs Try.prog (CallsD Try.prog) (.rounds (af Try.prog 54 0)) (SA nx us fr o i).abs e σ:=aO (Vk) (aiy nx us fr o i) ⟨fun e0=>⟨fun e1=>h0 e0 e1,fun e1=>h1 e0 e1⟩,fun e0=>h2 e0⟩
noncomputable def I9 (nx:List Int) (us:List Bool) (fr:Int) (o:Bool) (i:Int):Tr (Ex×Cs):= .d (ai .lss i ↑(us.length)) (fun e0=> .s (decide (i< ↑(us.length))=true) (.s (decide (0≤i)=true) (.s (decide (i< ↑(us.length))=true) (.s (decide (0≤i)=true) (.d (!us.getD i.toNat false ==us.getD i.toNat false) (fun e1=> .lf (Ex.ret,(RU (nx) (us) (fr) (false) (i)))) (fun e1=> .lf (Ex.normal,(RU (nx) (us) (fr) (o) (aj .add .i64 i 1))))))))) (fun e0=> .lf (Ex.exit 2,(RU (nx) (us) (fr) (o) (i))))
theorem ahJ (nx:List Int) (us:List Bool) (fr:Int) (o:Bool) (i:Int):Leaves (bT Try.prog (X23) 100000 (af Try.prog 54 1) [[2,3,4,6]] [(64,64),(96,96)] (RU nx us fr o i)) (I9 nx us fr o i) [] []:=by refine⟨fun _=>⟨fun _=>?_,fun _=>?_⟩,fun _=>?_⟩<;>(show _=_;kernel_rfl)
theorem Nw (nx:List Int) (us:List Bool) (fr:Int) (o:Bool) (i:Int) (σ:St) (e:Ex) (h0:At (RG Try.prog (af Try.prog 54 1) e σ) (I9 nx us fr o i) [true,true] True) (h1:At (RG Try.prog (af Try.prog 54 1) e σ) (I9 nx us fr o i) [true,false] True) (h2:At (RG Try.prog (af Try.prog 54 1) e σ) (I9 nx us fr o i) [false] True):Runs Try.prog (CallsD Try.prog) (.rounds (af Try.prog 54 1)) (RU nx us fr o i).abs e σ:=aO (Vk) (ahJ nx us fr o i) ⟨fun e0=>⟨fun e1=>h0 e0 e1,fun e1=>h1 e0 e1⟩,fun e0=>h2 e0⟩
noncomputable def He (nx:List Int) (us:List Bool) (fr:Int) (i:Int) (k:Int):Tr D:= .d (ai .neq fr fr) (fun e0=> .p (.c 13) (.lf (bo false))) (fun e0=> .p (.c 5) (.d (ai .neq ↑(nx.length) ↑(nx.length)) (fun e1=> .p (.c 6) (.lf (bo false))) (fun e1=> .p (.c 5) (.d (ai .neq ↑(us.length) ↑(us.length)) (fun e2=> .lf (bo false)) (fun e2=> .p (.l [[2,3,4,5]] [(64,64),(96,96)] (SA nx us fr false 0) (Ex.exit 0) (SA nx us fr false i)) (.p (.l [[2,3,4,6]] [(64,64),(96,96)] (RU nx us fr false 0) (Ex.exit 2) (RU nx us fr false k)) (.s (Runs Try.prog (CallsD Try.prog) (.code (.loop (af Try.prog 54 0))) (SA nx us fr false 0).abs (Ex.exit 0) (SA nx us fr false i).abs) (.k ((SA nx us fr false 0=SA nx us fr false 0)) rfl (.s (Runs Try.prog (CallsD Try.prog) (.code (.loop (af Try.prog 54 1))) (RU nx us fr false 0).abs (Ex.exit 2) (RU nx us fr false k).abs) (.k ((RU nx us fr false 0=RU nx us fr false 0)) rfl (.lf (bo true))))))))))))
theorem ahp (nx:List Int) (us:List Bool) (fr i k:Int):Leaves (fun l=>cu Try.prog (X23) 100000 l 54 [D.agg [ri nx,rb us,i64 fr],D.agg [ri nx,rb us,i64 fr]]) (He nx us fr i k) [] []:=by refine⟨fun _=>?_,fun _=>⟨fun _=>?_,fun _=>⟨fun _=>?_,fun _=>?_⟩⟩⟩<;>(show _=_;kernel_rfl)
theorem Vm (nx:List Int) (us:List Bool) (fr i k:Int) (res:D) (h0:At (fun r=>res=r) (He nx us fr i k) [true] True) (h1:At (fun r=>res=r) (He nx us fr i k) [false,true] True) (h2:At (fun r=>res=r) (He nx us fr i k) [false,false,true] True) (h3:At (fun r=>res=r) (He nx us fr i k) [false,false,false] True):CallsD Try.prog 54 [D.agg [ri nx,rb us,i64 fr],D.agg [ri nx,rb us,i64 fr]] res:=au (Vk) (ahp nx us fr i k) ⟨fun e0=>h0 e0,fun e0=>⟨fun e1=>h1 e0 e1,fun e1=>⟨fun e2=>h2 e0 e1 e2,fun e2=>h3 e0 e1 e2⟩⟩⟩
theorem Rh (x:Int):ai .neq x x=false:=by rw[aY]
theorem aiu (kx px:List Int) (ux:List Bool) (h:kx.length≤200):CallsD Try.prog 55 [cc kx px ux,cc kx px ux] (bo true):=by
 have r:Runs Try.prog (CallsD Try.prog) (.rounds (af Try.prog 55 0)) (SL kx px ux false 0).abs (.exit 0) (SL kx px ux false kx.length).abs:=by
  refine dS (fun i=>SL kx px ux false (i:Int)) kx.length (fun _=>True) (fun i hi _ σ e hr=>?_) ?_ kx.length 0 (by omega) (fun _ _ _=>trivial)
  ·refine N9 kx px ux false i σ e ?_ ?_ ?_<;>dsimp only[At,Tr.q,RG,Ht]
   ·intro _ g;simp[Xu,Zp] at g
   ·intro _ _;rw[dF hi h];exact⟨⟨(ay hi).1,(ay hi).2,(ay hi).1,(ay hi).2,trivial⟩,hr⟩
   ·intro g;rw[aX] at g;omega
  ·refine N9 kx px ux false kx.length _ _ ?_ ?_ ?_<;>dsimp only[At,Tr.q,RG,Ht]
   ·intro g;rw[aQ] at g;omega
   ·intro g;rw[aQ] at g;omega
   ·intro _;exact⟨trivial,rfl,rfl⟩
 refine VB kx px ux kx.length _ ?_ ?_<;>dsimp only[At,Tr.q,Tz]
 ·intro g;rw[Rh] at g;cases g
 ·intro _;exact⟨⟨ak r,trivial⟩,rfl⟩
theorem ag1 (nx:List Int) (us:List Bool) (fr:Int) (h:nx.length≤200) (h':us.length≤200):CallsD Try.prog 54 [.agg [ri nx,rb us,i64 fr], .agg [ri nx,rb us,i64 fr]] (bo true):=by
 have r:Runs Try.prog (CallsD Try.prog) (.rounds (af Try.prog 54 0)) (SA nx us fr false 0).abs (.exit 0) (SA nx us fr false nx.length).abs:=by
  refine dS (fun i=>SA nx us fr false (i:Int)) nx.length (fun _=>True) (fun i hi _ σ e hr=>?_) ?_ nx.length 0 (by omega) (fun _ _ _=>trivial)
  ·refine Nz nx us fr false i σ e ?_ ?_ ?_<;>dsimp only[At,Tr.q,RG,H9]
   ·intro _ g;rw[Rh] at g;cases g
   ·intro _ _;rw[dF hi h];exact⟨⟨(ay hi).1,(ay hi).2,(ay hi).1,(ay hi).2,trivial⟩,hr⟩
   ·intro g;rw[aX] at g;omega
  ·refine Nz nx us fr false nx.length _ _ ?_ ?_ ?_<;>dsimp only[At,Tr.q,RG,H9]
   ·intro g;rw[aQ] at g;omega
   ·intro g;rw[aQ] at g;omega
   ·intro _;exact⟨trivial,rfl,rfl⟩
 have r2:Runs Try.prog (CallsD Try.prog) (.rounds (af Try.prog 54 1)) (RU nx us fr false 0).abs (.exit 2) (RU nx us fr false us.length).abs:=by
  refine dS (fun i=>RU nx us fr false (i:Int)) us.length (fun _=>True) (fun i hi _ σ e hr=>?_) ?_ us.length 0 (by omega) (fun _ _ _=>trivial)
  ·refine Nw nx us fr false i σ e ?_ ?_ ?_<;>dsimp only[At,Tr.q,RG,I9]
   ·intro _ g;simp at g
   ·intro _ _;rw[dF hi h'];exact⟨⟨(ay hi).1,(ay hi).2,(ay hi).1,(ay hi).2,trivial⟩,hr⟩
   ·intro g;rw[aX] at g;omega
  ·refine Nw nx us fr false us.length _ _ ?_ ?_ ?_<;>dsimp only[At,Tr.q,RG,I9]
   ·intro g;rw[aQ] at g;omega
   ·intro g;rw[aQ] at g;omega
   ·intro _;exact⟨trivial,rfl,rfl⟩
 refine Vm nx us fr nx.length us.length _ ?_ ?_ ?_ ?_<;>dsimp only[At,Tr.q,He]
 ·intro g;rw[Rh] at g;cases g
 ·intro _ g;rw[Rh] at g;cases g
 ·intro _ _ g;rw[Rh] at g;cases g
 ·intro _ _ _;exact⟨⟨ak r2,ak r,trivial⟩,rfl⟩
theorem s3o (n1:List Int) (u1:List Bool) (f1:Int) (n2:List Int) (u2:List Bool) (f2:Int) (h:n1=n2∧u1=u2∧f1=f2∧n1.length≤200∧u1.length≤200):CallsD Try.prog 54 [.agg [ri n1,rb u1,i64 f1], .agg [ri n2,rb u2,i64 f2]] (bo true):=by
 obtain⟨rfl,rfl,rfl,h1,h2⟩:=h;exact ag1 _ _ _ h1 h2
theorem s4o (k1 p1:List Int) (u1:List Bool) (k2 p2:List Int) (u2:List Bool) (h:k1=k2∧p1=p2∧u1=u2∧k1.length≤200):CallsD Try.prog 55 [cc k1 p1 u1,cc k2 p2 u2] (bo true):=by
 obtain⟨rfl,rfl,rfl,h1⟩:=h;exact aiu _ _ _ h1
theorem afS (args res l) (h:s3C args=some (res,l)) (hl:aI l):CallsD Try.prog 54 args res:=by
 unfold s3C at h;split at h
 ·simp only[Option.some.injEq,Prod.mk.injEq] at h
  obtain⟨rfl,rfl⟩:=h;obtain⟨h0,_⟩:=hl
  exact s3o _ _ _ _ _ _ h0
 ·cases h
theorem af7 (args res l) (h:s4C args=some (res,l)) (hl:aI l):CallsD Try.prog 55 args res:=by
 unfold s4C at h;split at h
 ·simp only[Option.some.injEq,Prod.mk.injEq] at h
  obtain⟨rfl,rfl⟩:=h;obtain⟨h0,_⟩:=hl
  exact s4o _ _ _ _ _ _ h0
 ·cases h
theorem aeh:bG Try.prog X25:=ax afS (ax af7 Vk)
noncomputable def WB (T:Tb) (i:Int):=T.x2.getD i.toNat 0 ==T.x2.getD i.toNat 0 && (T.x3.getD i.toNat 0 ==T.x3.getD i.toNat 0 && true)
noncomputable def Yy (T:Tb) (i:Int):=T.x5.getD i.toNat 0 ==T.x5.getD i.toNat 0 && (T.x6.getD i.toNat 0 ==T.x6.getD i.toNat 0 && true)
noncomputable def Zo (T:Tb) (i:Int):=T.x4.getD i.toNat 0 ==T.x4.getD i.toNat 0 && (Yy T i)
noncomputable def YI (T:Tb) (i:Int):=T.x1.getD i.toNat 0 ==T.x1.getD i.toNat 0 && (WB T i) && (Zo T i)
noncomputable def Io (T:Tb) (o:Bool) (i:Int):Tr (Ex×Cs):= .d (ai .lss i ↑(T.x1.length)) (fun e0=> .s (decide (i< ↑(T.x1.length))=true) (.s (decide (0≤i)=true) (.s (decide (i< ↑(T.x1.length))=true) (.s (decide (0≤i)=true) (.d (!(YI T i)) (fun e1=> .lf (Ex.ret,(TJ T (false) (i)))) (fun e1=> .lf (Ex.normal,(TJ T (o) (aj .add .i64 i 1))))))))) (fun e0=> .lf (Ex.exit 0,(TJ T (o) (i))))
theorem ahT (T:Tb) (o:Bool) (i:Int):Leaves (bT Try.prog (X25) 100000 (af Try.prog 31 0) [[2,3,4,5]] [(64,64),(96,96)] (TJ T o i)) (Io T o i) [] []:=by refine⟨fun _=>⟨fun _=>?_,fun _=>?_⟩,fun _=>?_⟩<;>(show _=_;kernel_rfl)
theorem Nb (T:Tb) (o:Bool) (i:Int) (σ:St) (e:Ex) (h0:At (RG Try.prog (af Try.prog 31 0) e σ) (Io T o i) [true,true] True) (h1:At (RG Try.prog (af Try.prog 31 0) e σ) (Io T o i) [true,false] True) (h2:At (RG Try.prog (af Try.prog 31 0) e σ) (Io T o i) [false] True):Runs Try.prog (CallsD Try.prog) (.rounds (af Try.prog 31 0)) (TJ T o i).abs e σ:=aO (aeh) (ahT T o i) ⟨fun e0=>⟨fun e1=>h0 e0 e1,fun e1=>h1 e0 e1⟩,fun e0=>h2 e0⟩
noncomputable def ET (T:Tb) (i:Int):Tr D:= .d (ai .neq T.n T.n) (fun e0=> .p (.c 30) (.lf (bo false))) (fun e0=> .p (.c 4) (.s (T.ks.length≤200) (.d (!ND T.ks T.ks) (fun e1=> .p (.c 24) (.lf (bo false))) (fun e1=> .p (.c 5) (.d (ai .neq ↑(T.x1.length) ↑(T.x1.length)) (fun e2=> .p (.c 17) (.lf (bo false))) (fun e2=> .p (.c 16) (.s (T.nx=T.nx∧T.us=T.us∧T.fr=T.fr∧T.nx.length≤200∧T.us.length≤200) (.s (T.kx=T.kx∧T.px=T.px∧T.ux=T.ux∧T.kx.length≤200) (.s (T.ps.length≤200∧T.no.length≤200) (.d (!Bg T.ps T.no T.h T.t T.ps T.no T.h T.t) (fun e3=> .lf (bo false)) (fun e3=> .p (.l [[2,3,4,5]] [(64,64),(96,96)] (TJ T false 0) (Ex.exit 0) (TJ T false i)) (.s (Runs Try.prog (CallsD Try.prog) (.code (.loop (af Try.prog 31 0))) (TJ T false 0).abs (Ex.exit 0) (TJ T false i).abs) (.k ((TJ T false 0=TJ T false 0)) rfl (.lf (bo true)))))))))))))))
theorem aiN (T:Tb) (i:Int):Leaves (fun l=>cu Try.prog (X25) 100000 l 31 [T.d,T.d]) (ET T i) [] []:=by refine⟨fun _=>?_,fun _=>⟨fun _=>?_,fun _=>⟨fun _=>?_,fun _=>⟨fun _=>?_,fun _=>?_⟩⟩⟩⟩<;>(show _=_;kernel_rfl)
theorem UM (T:Tb) (i:Int) (res:D) (h0:At (fun r=>res=r) (ET T i) [true] True) (h1:At (fun r=>res=r) (ET T i) [false,true] True) (h2:At (fun r=>res=r) (ET T i) [false,false,true] True) (h3:At (fun r=>res=r) (ET T i) [false,false,false,true] True) (h4:At (fun r=>res=r) (ET T i) [false,false,false,false] True):CallsD Try.prog 31 [T.d,T.d] res:=au (aeh) (aiN T i) ⟨fun e0=>h0 e0,fun e0=>⟨fun e1=>h1 e0 e1,fun e1=>⟨fun e2=>h2 e0 e1 e2,fun e2=>⟨fun e3=>h3 e0 e1 e2 e3,fun e3=>h4 e0 e1 e2 e3⟩⟩⟩⟩
theorem ahf (T:Tb) (w:Be T):CallsD Try.prog 31 [T.d,T.d] (bo true):=by
 obtain⟨h1,h2,h3,h4,h5,h6,h7⟩:=w
 obtain⟨k1,k2,k3,k4,k5,k6⟩:=h2
 obtain⟨c1,c2,c3⟩:=h5
 have r:Runs Try.prog (CallsD Try.prog) (.rounds (af Try.prog 31 0)) (TJ T false 0).abs (.exit 0) (TJ T false T.x1.length).abs:=by
  refine dS (fun i=>TJ T false (i:Int)) T.x1.length (fun _=>True) (fun i hi _ σ e hr=>?_) ?_ T.x1.length 0 (by omega) (fun _ _ _=>trivial)
  ·refine Nb T false i σ e ?_ ?_ ?_<;>dsimp only[At,Tr.q,RG,Io]
   ·intro _ g;simp[YI,Zo,Yy,WB] at g
   ·intro _ _;rw[dF hi (by omega)];exact⟨⟨(ay hi).1,(ay hi).2,(ay hi).1,(ay hi).2,trivial⟩,hr⟩
   ·intro g;rw[aX] at g;omega
  ·refine Nb T false T.x1.length _ _ ?_ ?_ ?_<;>dsimp only[At,Tr.q,RG,Io]
   ·intro g;rw[aQ] at g;omega
   ·intro g;rw[aQ] at g;omega
   ·intro _;exact⟨trivial,rfl,rfl⟩
 refine UM T T.x1.length _ ?_ ?_ ?_ ?_ ?_<;>dsimp only[At,Tr.q,ET]
 ·intro g;rw[Rh] at g;cases g
 ·intro _ g;simp[ND] at g
 ·intro _ _ g;rw[Rh] at g;cases g
 ·intro _ _ _ g;simp[Bg,ND] at g
 ·intro _ _ _ _;exact⟨⟨ak r,⟨h6,h7⟩,⟨rfl,rfl,rfl,by omega⟩,⟨rfl,rfl,rfl,h3,h4⟩,h1,trivial⟩,rfl⟩
theorem BN {T:Tb} (h:uK T):Be T:=by
 obtain⟨d8,_,_,d1,d2,d3,d4,d5,d6,d7⟩:=h
 exact⟨d6,d4,d1,d2,d5,d7,d3⟩
theorem QS:Be t0:=by
 refine⟨?_,⟨?_,?_,?_,?_,?_,?_⟩,?_,?_,⟨?_,?_,?_⟩,?_,?_⟩<;>simp[t0]
def ZC (f:Tb→Tb→D×List Prop):List D→Option (D×List Prop)
 |[d,e]=>match QG d,QG e with
  |some T,some U=>some (f T U)
  |_,_=>none
 |_=>none
theorem XQ {f:Tb→Tb→D×List Prop} {g:FuncId} (hf:∀ T U,aI (f T U).2→CallsD Try.prog g [T.d,U.d] (f T U).1) (args res l) (h:ZC f args=some (res,l)) (hl:aI l):CallsD Try.prog g args res:=by
 unfold ZC at h
 split at h
 next d e=>
  split at h
  next T U ht hu=>
   simp only[Option.some.injEq] at h
   have e1:=Dc ht
   have e2:=Dc hu
   subst e1 e2
   have:=hf T U (by rw[h];exact hl)
   rw[h] at this;exact this
  ·cases h
 ·cases h
def smC:List D→Option (D×List Prop):=ZC fun T U=>(bo true,[T=U,Be T])
theorem agj (args res l) (h:smC args=some (res,l)) (hl:aI l):CallsD Try.prog 31 args res:=XQ (f:=fun T U=>(bo true,[T=U,Be T])) (fun T U h=>by obtain⟨rfl,w,_⟩:=h;exact ahf T w) args res l h hl
noncomputable def X26:aB:=aJ 31 (.call smC) X25
theorem ajE:bG Try.prog X26:=ax agj aeh
end TableS
end

section
namespace TableS
open Go Go.Dam Go.Proofs
set_option maxRecDepth 1000000
def bkS (b r p v q t n:Int):Prop:=wM b r p v q=0∧(0≤t∧t<18446744073709551616)∧0≤n∧n<18446744073709551616
theorem acz {b r p v q:Int} (h:wM b r p v q=0):MeterS.bkE b r p v q=0:=by
 unfold wM at h;split at h
 ·have hl:MeterS.DT b r p=0:=by unfold MeterS.DT;rw[if_neg (by omega)]
  unfold MeterS.bkE;rw[if_pos ⟨hl,by omega⟩]
 ·cases h
theorem aeL (b r p v q t n:Int) (h:bkS b r p v q t n):CallsD Try.prog 41 [.agg [i64 b,i64 r,i64 p,i64 v,i64 q,u64 t],u64 n] (.agg [i64 b,i64 r,i64 p,i64 (MeterS.Lr b r p v q t n),i64 (MeterS.Uf b r p v q t n),u64 (MeterS.CU t n)]):=
 MeterS.VX b r p v q t n (acz h.1) h.2.1.1 h.2.1.2 h.2.2.1 h.2.2.2
theorem afQ (b r p v q t n:Int) (h:bkS b r p v q t n):CallsD Try.prog 47 [.agg [i64 b,i64 r,i64 p,i64 v,i64 q,u64 t],u64 n] (.agg [i64 b,i64 r,i64 p,i64 (MeterS.Lr b r p v q t n),i64 (MeterS.Uf b r p v q t n),u64 (MeterS.CU t n)]):=
 MeterS.Vw b r p v q t n (acz h.1) h.2.1.1 h.2.1.2 h.2.2.1 h.2.2.2
def fiC:List D→Option (D×List Prop)
 |[.agg [.v (.int .i64 b), .v (.int .i64 r), .v (.int .i64 p), .v (.int .i64 v), .v (.int .i64 q), .v (.int .u64 t)], .v (.int .u64 n)]=>some (.agg [i64 b,i64 r,i64 p,i64 (MeterS.Lr b r p v q t n),i64 (MeterS.Uf b r p v q t n),u64 (MeterS.CU t n)],[bkS b r p v q t n])
 |_=>none
theorem abA (args res l) (h:fiC args=some (res,l)) (hl:aI l):CallsD Try.prog 41 args res:=by
 unfold fiC at h;split at h
 ·simp only[Option.some.injEq,Prod.mk.injEq] at h
  obtain⟨rfl,rfl⟩:=h;obtain⟨h0,_⟩:=hl
  exact aeL _ _ _ _ _ _ _ h0
 ·cases h
theorem aaZ (args res l) (h:fiC args=some (res,l)) (hl:aI l):CallsD Try.prog 47 args res:=by
 unfold fiC at h;split at h
 ·simp only[Option.some.injEq,Prod.mk.injEq] at h
  obtain⟨rfl,rfl⟩:=h;obtain⟨h0,_⟩:=hl
  exact afQ _ _ _ _ _ _ _ h0
 ·cases h
noncomputable def X27:aB:=aJ 41 (.call fiC) (aJ 47 (.call fiC) X26)
theorem aex:bG Try.prog X27:=ax abA (ax aaZ ajE)
end TableS
end

section
namespace TableS
open Go Go.Dam Go.Proofs
set_option maxRecDepth 1000000
noncomputable def nl:D:=D.v (Value.slice none 0 0)
noncomputable def b0B:BX:=BX.cells [i64 0,nl,nl,nl,nl,i64 0,nl,nl,nl,i64 0,i64 0] false
noncomputable def ownB (T:Tb) (d1 d2 d3 d4 d5 d6 d7:Nat):BX:=BX.cells [i64 T.n,D.sl d1 0 T.ks.length ⟨1,0⟩,D.sl d2 0 T.x1.length ⟨6,0⟩,D.sl d3 0 T.nx.length ⟨1,0⟩,D.sl d4 0 T.us.length ⟨1,0⟩,i64 T.fr,D.sl d5 0 T.kx.length ⟨3,0⟩,D.sl d6 0 T.ps.length ⟨1,0⟩,D.sl d7 0 T.no.length ⟨1,0⟩,i64 T.h,i64 T.t] false
noncomputable def bkB (y1 y2 y3 y4 y5 y6:List Int):BX:=BX.row [.ints .i64 y1, .ints .i64 y2, .ints .i64 y3, .ints .i64 y4, .ints .i64 y5, .ints .u64 y6] false
noncomputable def RJ (T:Tb) (b r p a:Int) (y1 y2 y3 y4 y5 y6:List Int) (i:Int):Cs:=⟨TT.of [(2,u64 a),(3,D.ptr 96 0),(4,D.ptr 128 0),(6,D.ptr 192 0),(7,i64 0),(8,D.ptr 256 0),(9,i64 i)],52,[],
 [(96,T.b),(128,BX.cells [i64 b,i64 r,i64 p] false),(192,b0B),(256,ownB T 736 737 738 739 740 741 742),(736,BX.row [.ints .u32 T.ks] false),(737,bkB y1 y2 y3 y4 y5 y6),(738,BX.row [.ints .i64 T.nx] false),(739,BX.row [.bools T.us] false),(740,BX.row [.ints .u32 T.kx, .ints .i64 T.px, .bools T.ux] false),(741,BX.row [.ints .i64 T.ps] false),(742,BX.row [.ints .i64 T.no] false)],none,0⟩
noncomputable def Ua (T:Tb) (b r p a:Int) (y1 y2 y3 y4 y5 y6:List Int) (i:Int):Cs:=⟨TT.of [(2,u64 a),(4,D.ptr 128 0),(6,D.ptr 192 0),(7,i64 0),(10,D.ptr 320 0),(29,D.sl 131648 0 T.us.length ⟨1,0⟩),(30,i64 T.us.length),(31,i64 i)],54,[],
 [(128,BX.cells [i64 b,i64 r,i64 p] false),(192,b0B),(320,ownB T 131232 131328 131520 131648 131904 132064 132192),(131648,BX.row [.bools T.us] false),(131232,BX.row [.ints .u32 T.ks] false),(131328,bkB y1 y2 y3 y4 y5 y6),(131520,BX.row [.ints .i64 T.nx] false),(131904,BX.row [.ints .u32 T.kx, .ints .i64 T.px, .bools T.ux] false),(132064,BX.row [.ints .i64 T.ps] false),(132192,BX.row [.ints .i64 T.no] false)],none,0⟩
def cgV (b r p v q t b2 n:Int):Int:=qB .lss (MeterS.Lr b r p v q t n) b2
def Yn (b r p v q t b2 r2 p2 n:Int):Prop:=bkS b r p v q t n∧jV v∧iV b2 r2 p2=0
def cgC:List D→Option (D×List Prop)
 |[.agg [.v (.int .i64 b), .v (.int .i64 r), .v (.int .i64 p), .v (.int .i64 v), .v (.int .i64 q), .v (.int .u64 t)], .agg [.v (.int .i64 b2), .v (.int .i64 r2), .v (.int .i64 p2)], .v (.int .u64 n)]=>some (.bF [.agg [i64 b2,i64 r2,i64 p2,i64 (cgV b r p v q t b2 n),i64 0,u64 (MeterS.CU t n)],i64 0],[Yn b r p v q t b2 r2 p2 n])
 |_=>none
noncomputable def X28:aB:=aJ 20 (.call cgC) (aJ 24 (.call cgC) X27)
end TableS
end

section
namespace TableS
open Go Go.Dam Go.Proofs
set_option maxRecDepth 1000000
theorem adh (b r p v q t b2 r2 p2 n:Int):cu Try.prog (X27) 100000 [.d false, .d false] 20 [D.agg [i64 b,i64 r,i64 p,i64 v,i64 q,u64 t],D.agg [i64 b2,i64 r2,i64 p2],u64 n]=some (D.bF [D.agg [i64 b2,i64 r2,i64 p2,i64 (qB .lss (MeterS.Lr b r p v q t n) b2),i64 0,u64 (MeterS.CU t n)],i64 0],[bkS b r p v q t n,ai .neq (iV b2 r2 p2) 0=false,ai .neq (wM b r p v q) 0=false,jV v]):=by kernel_rfl
theorem UK (b r p v q t b2 r2 p2 n:Int) (res:D)
 (e0:(ai .neq (wM b r p v q) 0)=false)
 (e1:(ai .neq (iV b2 r2 p2) 0)=false)
 (h0:((bkS b r p v q t n)∧(jV v)∧True)∧res=D.bF [D.agg [i64 b2,i64 r2,i64 p2,i64 (qB .lss (MeterS.Lr b r p v q t n) b2),i64 0,u64 (MeterS.CU t n)],i64 0]):CallsD Try.prog 20 [D.agg [i64 b,i64 r,i64 p,i64 v,i64 q,u64 t],D.agg [i64 b2,i64 r2,i64 p2],u64 n] res:=by
 obtain⟨⟨k0,k1,_⟩,kr⟩:=h0
 exact aV (aex) (adh b r p v q t b2 r2 p2 n) ⟨k0,e1,e0,k1,trivial⟩ kr
theorem afM (b r p v q t b2 r2 p2 n:Int):cu Try.prog (X27) 100000 [.d false, .d false] 24 [D.agg [i64 b,i64 r,i64 p,i64 v,i64 q,u64 t],D.agg [i64 b2,i64 r2,i64 p2],u64 n]=some (D.bF [D.agg [i64 b2,i64 r2,i64 p2,i64 (qB .lss (MeterS.Lr b r p v q t n) b2),i64 0,u64 (MeterS.CU t n)],i64 0],[bkS b r p v q t n,ai .neq (iV b2 r2 p2) 0=false,ai .neq (wM b r p v q) 0=false]):=by kernel_rfl
theorem UQ (b r p v q t b2 r2 p2 n:Int) (res:D)
 (e0:(ai .neq (wM b r p v q) 0)=false)
 (e1:(ai .neq (iV b2 r2 p2) 0)=false)
 (h0:((bkS b r p v q t n)∧True)∧res=D.bF [D.agg [i64 b2,i64 r2,i64 p2,i64 (qB .lss (MeterS.Lr b r p v q t n) b2),i64 0,u64 (MeterS.CU t n)],i64 0]):CallsD Try.prog 24 [D.agg [i64 b,i64 r,i64 p,i64 v,i64 q,u64 t],D.agg [i64 b2,i64 r2,i64 p2],u64 n] res:=by
 obtain⟨⟨k0,_⟩,kr⟩:=h0
 exact aV (aex) (afM b r p v q t b2 r2 p2 n) ⟨k0,e1,e0,trivial⟩ kr
theorem TR {b r p v q t b2 r2 p2 n:Int} (h:Yn b r p v q t b2 r2 p2 n):ai .neq (wM b r p v q) 0=false∧ai .neq (iV b2 r2 p2) 0=false:=
 ⟨by rw[aY];exact h.1.1,by rw[aY];exact h.2.2⟩
theorem aeJ (b r p v q t b2 r2 p2 n:Int) (h:Yn b r p v q t b2 r2 p2 n):CallsD Try.prog 20 [.agg [i64 b,i64 r,i64 p,i64 v,i64 q,u64 t], .agg [i64 b2,i64 r2,i64 p2],u64 n] (.bF [.agg [i64 b2,i64 r2,i64 p2,i64 (cgV b r p v q t b2 n),i64 0,u64 (MeterS.CU t n)],i64 0]):=
 UK b r p v q t b2 r2 p2 n _ (TR h).1 (TR h).2 ⟨⟨h.1,h.2.1,trivial⟩,rfl⟩
theorem afU (b r p v q t b2 r2 p2 n:Int) (h:Yn b r p v q t b2 r2 p2 n):CallsD Try.prog 24 [.agg [i64 b,i64 r,i64 p,i64 v,i64 q,u64 t], .agg [i64 b2,i64 r2,i64 p2],u64 n] (.bF [.agg [i64 b2,i64 r2,i64 p2,i64 (cgV b r p v q t b2 n),i64 0,u64 (MeterS.CU t n)],i64 0]):=
 UQ b r p v q t b2 r2 p2 n _ (TR h).1 (TR h).2 ⟨⟨h.1,trivial⟩,rfl⟩
theorem ab9 (args res l) (h:cgC args=some (res,l)) (hl:aI l):CallsD Try.prog 20 args res:=by
 unfold cgC at h;split at h
 ·simp only[Option.some.injEq,Prod.mk.injEq] at h
  obtain⟨rfl,rfl⟩:=h;obtain⟨h0,_⟩:=hl
  exact aeJ _ _ _ _ _ _ _ _ _ _ h0
 ·cases h
theorem aad (args res l) (h:cgC args=some (res,l)) (hl:aI l):CallsD Try.prog 24 args res:=by
 unfold cgC at h;split at h
 ·simp only[Option.some.injEq,Prod.mk.injEq] at h
  obtain⟨rfl,rfl⟩:=h;obtain⟨h0,_⟩:=hl
  exact afU _ _ _ _ _ _ _ _ _ _ h0
 ·cases h
theorem Xv:bG Try.prog X28:=ax ab9 (ax aad aex)
noncomputable def EX (T:Tb) (b:Int) (r:Int) (p:Int) (a:Int) (y1:List Int) (y2:List Int) (y3:List Int) (y4:List Int) (y5:List Int) (y6:List Int) (i:Int):Tr (Ex×Cs):= .d (ai .lss i T.n) (fun e0=> .s (decide (i< ↑(T.us.length))=true) (.s (decide (0≤i)=true) (.d (T.us.getD i.toNat false) (fun e1=> .s (decide (i< ↑(rowLen [Col.ints .i64 T.x1,Col.ints .i64 T.x2,Col.ints .i64 T.x3,Col.ints .i64 T.x4,Col.ints .i64 T.x5,Col.ints .u64 T.x6]))=true) (.s (decide (0≤i)=true) (.s (Yn (T.x1.getD i.toNat 0) (T.x2.getD i.toNat 0) (T.x3.getD i.toNat 0) (T.x4.getD i.toNat 0) (T.x5.getD i.toNat 0) (T.x6.getD i.toNat 0) b r p a) (.s (decide (i< ↑T.x1.length)=true) (.s (decide (0≤i)=true) (.s ((aH.ints .u64 y6).len=y1.length) (.s ((aH.ints .i64 y5).len=y1.length) (.s ((aH.ints .i64 y4).len=y1.length) (.s ((aH.ints .i64 y3).len=y1.length) (.s ((aH.ints .i64 y2).len=y1.length) (.s ((aH.ints .i64 y1).len=y1.length) (.s (i.toNat<y1.length) (.lf (Ex.normal,(RJ T (b) (r) (p) (a) (y1.set i.toNat b) (y2.set i.toNat r) (y3.set i.toNat p) (y4.set i.toNat (cgV (T.x1.getD i.toNat 0) (T.x2.getD i.toNat 0) (T.x3.getD i.toNat 0) (T.x4.getD i.toNat 0) (T.x5.getD i.toNat 0) (T.x6.getD i.toNat 0) b a)) (y5.set i.toNat 0) (y6.set i.toNat (MeterS.CU (T.x6.getD i.toNat 0) a)) (aj .add .i64 i 1)))))))))))))))) (fun e1=> .lf (Ex.normal,(RJ T (b) (r) (p) (a) (y1) (y2) (y3) (y4) (y5) (y6) (aj .add .i64 i 1))))))) (fun e0=> .lf (Ex.exit 0,(RJ T (b) (r) (p) (a) (y1) (y2) (y3) (y4) (y5) (y6) (i))))
theorem ahW (T:Tb) (b r p a:Int) (y1 y2 y3 y4 y5 y6:List Int) (i:Int):Leaves (bT Try.prog (X28) 100000 (af Try.prog 25 0) [[2,3,4,6,7,8,9]] [(96,96),(128,128),(192,192),(256,256),(736,736),(737,737),(738,738),(739,739),(740,740),(741,741),(742,742)] (RJ T b r p a y1 y2 y3 y4 y5 y6 i)) (EX T b r p a y1 y2 y3 y4 y5 y6 i) [] []:=by refine⟨fun _=>⟨fun _=>?_,fun _=>?_⟩,fun _=>?_⟩<;>(show _=_;kernel_rfl)
theorem Eo (T:Tb) (b:Int) (r:Int) (p:Int) (a:Int) (y1:List Int) (y2:List Int) (y3:List Int) (y4:List Int) (y5:List Int) (y6:List Int) (i:Int) (σ:St) (e:Ex) (h0:At (RG Try.prog (af Try.prog 25 0) e σ) (EX T b r p a y1 y2 y3 y4 y5 y6 i) [true,true] True) (h1:At (RG Try.prog (af Try.prog 25 0) e σ) (EX T b r p a y1 y2 y3 y4 y5 y6 i) [true,false] True) (h2:At (RG Try.prog (af Try.prog 25 0) e σ) (EX T b r p a y1 y2 y3 y4 y5 y6 i) [false] True):Runs Try.prog (CallsD Try.prog) (.rounds (af Try.prog 25 0)) (RJ T b r p a y1 y2 y3 y4 y5 y6 i).abs e σ:=aO (Xv) (ahW T b r p a y1 y2 y3 y4 y5 y6 i) ⟨fun e0=>⟨fun e1=>h0 e0 e1,fun e1=>h1 e0 e1⟩,fun e0=>h2 e0⟩
noncomputable def DZ (T:Tb) (b:Int) (r:Int) (p:Int) (a:Int) (y1:List Int) (y2:List Int) (y3:List Int) (y4:List Int) (y5:List Int) (y6:List Int) (i:Int):Tr D:= .s (uK T) (.d (ai .neq (BG T) 0) (fun e0=> .s (uK T) (.lf (D.bF [D.agg [i64 0,D.v (Value.slice none 0 0),D.v (Value.slice none 0 0),D.v (Value.slice none 0 0),D.v (Value.slice none 0 0),i64 0,D.v (Value.slice none 0 0),D.v (Value.slice none 0 0),D.v (Value.slice none 0 0),i64 0,i64 0],i64 (BG T)]))) (fun e0=> .d (ai .neq (iV b r p) 0) (fun e1=> .lf (D.bF [D.agg [i64 0,D.v (Value.slice none 0 0),D.v (Value.slice none 0 0),D.v (Value.slice none 0 0),D.v (Value.slice none 0 0),i64 0,D.v (Value.slice none 0 0),D.v (Value.slice none 0 0),D.v (Value.slice none 0 0),i64 0,i64 0],i64 (iV b r p)])) (fun e1=> .p (.l [[2,3,4,6,7,8,9]] [(96,96),(128,128),(192,192),(256,256),(736,736),(737,737),(738,738),(739,739),(740,740),(741,741),(742,742)] (RJ T b r p a T.x1 T.x2 T.x3 T.x4 T.x5 T.x6 0) (Ex.exit 0) (RJ T b r p a y1 y2 y3 y4 y5 y6 i)) (.s (Be T) (.s (Runs Try.prog (CallsD Try.prog) (.code (.loop (af Try.prog 25 0))) (RJ T b r p a T.x1 T.x2 T.x3 T.x4 T.x5 T.x6 0).abs (Ex.exit 0) (RJ T b r p a y1 y2 y3 y4 y5 y6 i).abs) (.k ((RJ T b r p a T.x1 T.x2 T.x3 T.x4 T.x5 T.x6 0=RJ T b r p a T.x1 T.x2 T.x3 T.x4 T.x5 T.x6 0)) rfl (.s (T.no.length=ah [.ints .i64 T.no]) (.s (T.ps.length=ah [.ints .i64 T.ps]) (.s (T.kx.length=ah [.ints .u32 T.kx, .ints .i64 T.px, .bools T.ux]) (.s (T.us.length=T.us.length) (.s (T.nx.length=ah [.ints .i64 T.nx]) (.s (T.x1.length=y1.length) (.s (T.ks.length=ah [.ints .u32 T.ks]) (.lf (D.bF [D.agg [i64 T.n,D.oc [.ints .u32 T.ks],D.oc [.ints .i64 y1, .ints .i64 y2, .ints .i64 y3, .ints .i64 y4, .ints .i64 y5, .ints .u64 y6],D.oc [.ints .i64 T.nx],D.oc [.bools T.us],i64 T.fr,D.oc [.ints .u32 T.kx, .ints .i64 T.px, .bools T.ux],D.oc [.ints .i64 T.ps],D.oc [.ints .i64 T.no],i64 T.h,i64 T.t],i64 0])))))))))))))))
theorem ahn (T:Tb) (b r p a:Int) (y1 y2 y3 y4 y5 y6:List Int) (i:Int):Leaves (fun l=>cu Try.prog (X28) 100000 l 25 [T.d,D.agg [i64 b,i64 r,i64 p],u64 a]) (DZ T b r p a y1 y2 y3 y4 y5 y6 i) [] []:=by refine⟨fun _=>?_,fun _=>⟨fun _=>?_,fun _=>?_⟩⟩<;>(show _=_;kernel_rfl)
theorem zO (T:Tb) (b r p a:Int) (y1 y2 y3 y4 y5 y6:List Int) (i:Int) (res:D) (h0:At (fun r=>res=r) (DZ T b r p a y1 y2 y3 y4 y5 y6 i) [true] True) (h1:At (fun r=>res=r) (DZ T b r p a y1 y2 y3 y4 y5 y6 i) [false,true] True) (h2:At (fun r=>res=r) (DZ T b r p a y1 y2 y3 y4 y5 y6 i) [false,false] True):CallsD Try.prog 25 [T.d,D.agg [i64 b,i64 r,i64 p],u64 a] res:=au (Xv) (ahn T b r p a y1 y2 y3 y4 y5 y6 i) ⟨fun e0=>h0 e0,fun e0=>⟨fun e1=>h1 e0 e1,fun e1=>h2 e0 e1⟩⟩
noncomputable def DC (T:Tb) (b:Int) (r:Int) (p:Int) (a:Int) (y1:List Int) (y2:List Int) (y3:List Int) (y4:List Int) (y5:List Int) (y6:List Int) (i:Int):Tr (Ex×Cs):= .d (ai .lss i ↑T.us.length) (fun e0=> .s (decide (i< ↑T.us.length)=true) (.s (decide (0≤i)=true) (.s (i.toNat<T.us.length) (.d (T.us.getD i.toNat false) (fun e1=> .s (decide (i< ↑T.x1.length)=true) (.s (decide (0≤i)=true) (.s (i.toNat<y1.length) (.s (Yn (y1.getD i.toNat 0) (y2.getD i.toNat 0) (y3.getD i.toNat 0) (y4.getD i.toNat 0) (y5.getD i.toNat 0) (y6.getD i.toNat 0) b r p a) (.s (decide (i< ↑T.x1.length)=true) (.s (decide (0≤i)=true) (.s ((aH.ints .u64 y6).len=y1.length) (.s ((aH.ints .i64 y5).len=y1.length) (.s ((aH.ints .i64 y4).len=y1.length) (.s ((aH.ints .i64 y3).len=y1.length) (.s ((aH.ints .i64 y2).len=y1.length) (.s ((aH.ints .i64 y1).len=y1.length) (.s (i.toNat<y1.length) (.lf (Ex.normal,(Ua T (b) (r) (p) (a) (y1.set i.toNat b) (y2.set i.toNat r) (y3.set i.toNat p) (y4.set i.toNat (cgV (y1.getD i.toNat 0) (y2.getD i.toNat 0) (y3.getD i.toNat 0) (y4.getD i.toNat 0) (y5.getD i.toNat 0) (y6.getD i.toNat 0) b a)) (y5.set i.toNat 0) (y6.set i.toNat (MeterS.CU (y6.getD i.toNat 0) a)) (aj .add .i64 i 1))))))))))))))))) (fun e1=> .lf (Ex.normal,(Ua T (b) (r) (p) (a) (y1) (y2) (y3) (y4) (y5) (y6) (aj .add .i64 i 1)))))))) (fun e0=> .lf (Ex.exit 0,(Ua T (b) (r) (p) (a) (y1) (y2) (y3) (y4) (y5) (y6) (i))))
theorem agD (T:Tb) (b r p a:Int) (y1 y2 y3 y4 y5 y6:List Int) (i:Int):Leaves (bT Try.prog (X28) 100000 (af Try.prog 21 0) [[2,4,6,7,10,29,30,31]] [(128,128),(192,192),(320,320),(131648,131648),(131232,131232),(131328,131328),(131520,131520),(131904,131904),(132064,132064),(132192,132192)] (Ua T b r p a y1 y2 y3 y4 y5 y6 i)) (DC T b r p a y1 y2 y3 y4 y5 y6 i) [] []:=by refine⟨fun _=>⟨fun _=>?_,fun _=>?_⟩,fun _=>?_⟩<;>(show _=_;kernel_rfl)
theorem FH (T:Tb) (b:Int) (r:Int) (p:Int) (a:Int) (y1:List Int) (y2:List Int) (y3:List Int) (y4:List Int) (y5:List Int) (y6:List Int) (i:Int) (σ:St) (e:Ex) (h0:At (RG Try.prog (af Try.prog 21 0) e σ) (DC T b r p a y1 y2 y3 y4 y5 y6 i) [true,true] True) (h1:At (RG Try.prog (af Try.prog 21 0) e σ) (DC T b r p a y1 y2 y3 y4 y5 y6 i) [true,false] True) (h2:At (RG Try.prog (af Try.prog 21 0) e σ) (DC T b r p a y1 y2 y3 y4 y5 y6 i) [false] True):Runs Try.prog (CallsD Try.prog) (.rounds (af Try.prog 21 0)) (Ua T b r p a y1 y2 y3 y4 y5 y6 i).abs e σ:=aO (Xv) (agD T b r p a y1 y2 y3 y4 y5 y6 i) ⟨fun e0=>⟨fun e1=>h0 e0 e1,fun e1=>h1 e0 e1⟩,fun e0=>h2 e0⟩
noncomputable def EN (T:Tb) (b:Int) (r:Int) (p:Int) (a:Int) (y1:List Int) (y2:List Int) (y3:List Int) (y4:List Int) (y5:List Int) (y6:List Int) (i:Int):Tr D:= .s (uK T) (.d (ai .neq (nO T) 0) (fun e0=> .lf (D.bF [D.agg [i64 0,D.v (Value.slice none 0 0),D.v (Value.slice none 0 0),D.v (Value.slice none 0 0),D.v (Value.slice none 0 0),i64 0,D.v (Value.slice none 0 0),D.v (Value.slice none 0 0),D.v (Value.slice none 0 0),i64 0,i64 0],i64 (nO T)])) (fun e0=> .d (ai .neq (iV b r p) 0) (fun e1=> .lf (D.bF [D.agg [i64 0,D.v (Value.slice none 0 0),D.v (Value.slice none 0 0),D.v (Value.slice none 0 0),D.v (Value.slice none 0 0),i64 0,D.v (Value.slice none 0 0),D.v (Value.slice none 0 0),D.v (Value.slice none 0 0),i64 0,i64 0],i64 (iV b r p)])) (fun e1=> .p (.l [[2,4,6,7,10,29,30,31]] [(128,128),(192,192),(320,320),(131648,131648),(131232,131232),(131328,131328),(131520,131520),(131904,131904),(132064,132064),(132192,132192)] (Ua T b r p a T.x1 T.x2 T.x3 T.x4 T.x5 T.x6 0) (Ex.exit 0) (Ua T b r p a y1 y2 y3 y4 y5 y6 i)) (.s (T.ks.length≤200) (.s (kcS T.x1 T.x2 T.x3 T.x4 T.x5 T.x6) (.s (T.nx.length≤200) (.s (T.us.length≤200) (.s (ccS T.kx T.px T.ux) (.s (T.ps.length≤200) (.s (T.no.length≤200) (.s (Runs Try.prog (CallsD Try.prog) (.code (.loop (af Try.prog 21 0))) (Ua T b r p a T.x1 T.x2 T.x3 T.x4 T.x5 T.x6 0).abs (Ex.exit 0) (Ua T b r p a y1 y2 y3 y4 y5 y6 i).abs) (.k ((Ua T b r p a T.x1 T.x2 T.x3 T.x4 T.x5 T.x6 0=Ua T b r p a T.x1 T.x2 T.x3 T.x4 T.x5 T.x6 0)) rfl (.s (T.no.length=ah [.ints .i64 T.no]) (.s (T.ps.length=ah [.ints .i64 T.ps]) (.s (T.kx.length=ah [.ints .u32 T.kx, .ints .i64 T.px, .bools T.ux]) (.s (T.us.length=T.us.length) (.s (T.nx.length=ah [.ints .i64 T.nx]) (.s (T.x1.length=y1.length) (.s (T.ks.length=ah [.ints .u32 T.ks]) (.lf (D.bF [D.agg [i64 T.n,D.oc [.ints .u32 T.ks],D.oc [.ints .i64 y1, .ints .i64 y2, .ints .i64 y3, .ints .i64 y4, .ints .i64 y5, .ints .u64 y6],D.oc [.ints .i64 T.nx],D.oc [.bools T.us],i64 T.fr,D.oc [.ints .u32 T.kx, .ints .i64 T.px, .bools T.ux],D.oc [.ints .i64 T.ps],D.oc [.ints .i64 T.no],i64 T.h,i64 T.t],i64 0])))))))))))))))))))))
theorem aha (T:Tb) (b r p a:Int) (y1 y2 y3 y4 y5 y6:List Int) (i:Int):Leaves (fun l=>cu Try.prog (X28) 100000 l 21 [T.d,D.agg [i64 b,i64 r,i64 p],u64 a]) (EN T b r p a y1 y2 y3 y4 y5 y6 i) [] []:=by refine⟨fun _=>?_,fun _=>⟨fun _=>?_,fun _=>?_⟩⟩<;>(show _=_;kernel_rfl)
theorem yL (T:Tb) (b r p a:Int) (y1 y2 y3 y4 y5 y6:List Int) (i:Int) (res:D) (h0:At (fun r=>res=r) (EN T b r p a y1 y2 y3 y4 y5 y6 i) [true] True) (h1:At (fun r=>res=r) (EN T b r p a y1 y2 y3 y4 y5 y6 i) [false,true] True) (h2:At (fun r=>res=r) (EN T b r p a y1 y2 y3 y4 y5 y6 i) [false,false] True):CallsD Try.prog 21 [T.d,D.agg [i64 b,i64 r,i64 p],u64 a] res:=au (Xv) (aha T b r p a y1 y2 y3 y4 y5 y6 i) ⟨fun e0=>h0 e0,fun e0=>⟨fun e1=>h1 e0 e1,fun e1=>h2 e0 e1⟩⟩
end TableS
end
