/- What the functions compute, and the law. No condition. -/
import Derived.Test.YtfoelbdkgaliaaaGreatPzPU
import Derived.Test.YtfoelbdkgaliaaaGreatPyWC
import Derived.Test.YtfoelbdkgaliaaaGreatPzVQ
import Derived.Test.YtfoelbdkgaliaaaGreatDamYA
import Derived.Test.YtfoelbdkgaliaaaGreatRows
set_option linter.unusedSectionVars false
set_option linter.unusedVariables false
set_option linter.unusedSimpArgs false
noncomputable section
namespace MeterS
open Go Go.Dam Go.Proofs
set_option maxRecDepth 1000000
theorem MV (b r p v q:Int):iJ b r p v q=TableS.qA b r p v q:=by
 have hl:C9 b r p=0↔1≤b∧b≤1000000000∧0≤r∧r≤1000000000∧1≤p∧p≤1000000000:=by unfold C9;split<;>omega
 unfold iJ TableS.qA
 split
 next h=>obtain⟨h1,h2⟩:=h;rw[hl] at h1;rw[if_pos (by omega)]
 next h=>rw[if_neg (fun q=>h ⟨hl.2 (by omega),by omega⟩)]
theorem afI (b r p v q t:Int) (v0:-9223372036854775808≤v) (v1:v<9223372036854775808):Kl 52 [.agg [i64 b,i64 r,i64 p,i64 v,i64 q,u64 t]] (i64 (iJ b r p v q)):=by rw[MV];exact TableS.ac4 b r p v q t ⟨v0,v1⟩
theorem ZY (b r p v q t:Int) (v0:-9223372036854775808≤v) (v1:v<9223372036854775808):Kl 33 [.agg [i64 b,i64 r,i64 p,i64 v,i64 q,u64 t]] (i64 (iJ b r p v q)):=by rw[MV];exact TableS.acg b r p v q t
def bkC:List D→Option (D×List Prop)
 |[.agg [.v (.int .i64 b), .v (.int .i64 r), .v (.int .i64 p), .v (.int .i64 v), .v (.int .i64 q), .v (.int .u64 t)]]=>some (i64 (iJ b r p v q),[-9223372036854775808≤v,v<9223372036854775808])
 |_=>none
theorem aiY (args res l) (h:bkC args=some (res,l)) (hl:aJ l):Kl 52 args res:=by
 unfold bkC at h;split at h
 ·obtain⟨rfl,rfl⟩:=dB h;obtain⟨h0,h1,_⟩:=hl
  exact afI _ _ _ _ _ _ h0 h1
 ·cases h
theorem agZ (args res l) (h:bkC args=some (res,l)) (hl:aJ l):Kl 33 args res:=by
 unfold bkC at h;split at h
 ·obtain⟨rfl,rfl⟩:=dB h;obtain⟨h0,h1,_⟩:=hl
  exact ZY _ _ _ _ _ _ h0 h1
 ·cases h
def fiC:List D→Option (D×List Prop)
 |[.agg [.v (.int .i64 b), .v (.int .i64 r), .v (.int .i64 p), .v (.int .i64 v), .v (.int .i64 q), .v (.int .u64 t)], .v (.int .u64 n)]=>some (.agg [i64 b,i64 r,i64 p,i64 (bK b r p v q t n),i64 (jI b r p v q t n),u64 (jF t n)],[iJ b r p v q=0,0≤t,t<18446744073709551616,0≤n,n<18446744073709551616])
 |_=>none
theorem agB (args res l) (h:fiC args=some (res,l)) (hl:aJ l):Kl 59 args res:=by
 unfold fiC at h;split at h
 ·obtain⟨rfl,rfl⟩:=dB h;obtain⟨h0,h1,h2,h3,h4,_⟩:=hl
  exact MP _ _ _ _ _ _ _ h0 h1 h2 h3 h4
 ·cases h
theorem agf (args res l) (h:fiC args=some (res,l)) (hl:aJ l):Kl 155 args res:=by
 unfold fiC at h;split at h
 ·obtain⟨rfl,rfl⟩:=dB h;obtain⟨h0,h1,h2,h3,h4,_⟩:=hl
  exact LP _ _ _ _ _ _ _ h0 h1 h2 h3 h4
 ·cases h
def X21:aB:=aF 52 (.call bkC) (aF 33 (.call bkC) (aF 59 (.call fiC) (aF 155 (.call fiC) X20)))
theorem abL:bT Pg X21:=aj aiY (aj agZ (aj agB (aj agf afU)))
abbrev u32 (n:Int):D:= .v (.int .u32 n)
abbrev u16 (n:Int):D:= .v (.int .u16 n)
abbrev u8 (n:Int):D:= .v (.int .u8 n)
abbrev bo (b:Bool):D:= .v (.bool b)
def vK (b r p v q t c:Int):Int:=if c≤v then 0 else if b<c∨r=0 then 18446744073709551615 else if 18446744073709551615 - t<MX ((c - v)*p - q) r then 18446744073709551615 else MX ((c - v)*p - q) r
def kN (p v q c:Int):Int:=if 0*18446744073709551616+IntKind.u64.wrap q≤IntKind.u64.wrap (ai .sub .i64 c v)*IntKind.u64.wrap p / 18446744073709551616*18446744073709551616+IntKind.u64.wrap (ai .sub .i64 c v)*IntKind.u64.wrap p%18446744073709551616 then IntKind.u64.wrap (ai .sub .i64 c v)*IntKind.u64.wrap p / 18446744073709551616*18446744073709551616+IntKind.u64.wrap (ai .sub .i64 c v)*IntKind.u64.wrap p%18446744073709551616 - (0+IntKind.u64.wrap q) else 0
def CX (p v q c:Int):=(kN p v q c) / 18446744073709551616*18446744073709551616+(kN p v q c)%18446744073709551616
def xX (p v q c:Int):Int:=if 0*18446744073709551616+IntKind.u64.wrap q≤IntKind.u64.wrap (ai .sub .i64 c v)*IntKind.u64.wrap p / 18446744073709551616*18446744073709551616+IntKind.u64.wrap (ai .sub .i64 c v)*IntKind.u64.wrap p%18446744073709551616 then IntKind.u64.wrap (ai .sub .i64 c v)*IntKind.u64.wrap p / 18446744073709551616*18446744073709551616+IntKind.u64.wrap (ai .sub .i64 c v)*IntKind.u64.wrap p%18446744073709551616 - (0*18446744073709551616+IntKind.u64.wrap q) else 0
def yu (p v q c:Int):=(xX p v q c) / 18446744073709551616*18446744073709551616+(xX p v q c)%18446744073709551616
def Dz (r p v q c:Int):Int:=if MX (yu p v q c) (IntKind.u64.wrap r) / 18446744073709551616=0 then 0 else 16
def yC (r p v q c:Int):Int:=if MX (yu p v q c) (IntKind.u64.wrap r) / 18446744073709551616=0 then MX (CX p v q c) (IntKind.u64.wrap r)%18446744073709551616 else 0
def Dj (r p v q t c:Int):=ah .gtr (yC r p v q c) (ai .sub .u64 18446744073709551615 t)
def jw (b r p v q t c:Int):Tr D:= .s (v<9223372036854775808) (.s (-9223372036854775808≤v) (.e (ah .neq (iJ b r p v q) 0) (.lf (D.aS [u64 0,i64 (iJ b r p v q)])) (.e (ah .lss c 0) (.lf (D.aS [u64 0,i64 2])) (.e (ah .leq c v) (.lf (D.aS [u64 0,i64 0])) (.e (ah .gtr c b) (.p (.c 3) (.lf (D.aS [u64 18446744073709551615,i64 0]))) (.p (.c 2) (.e (ah .eql r 0) (.lf (D.aS [u64 18446744073709551615,i64 0])) (.s (IntKind.u64.wrap p<18446744073709551616) (.s (0≤IntKind.u64.wrap p) (.s (IntKind.u64.wrap (ai .sub .i64 c v)<18446744073709551616) (.s (0≤IntKind.u64.wrap (ai .sub .i64 c v)) (.s (IntKind.u64.wrap q<18446744073709551616) (.s (0≤IntKind.u64.wrap q) (.s ((0:Int)<(18446744073709551616:Int)) (.s ((0:Int)≤(0:Int)) (.s (IntKind.u64.wrap (ai .sub .i64 c v)*IntKind.u64.wrap p%18446744073709551616<18446744073709551616) (.s (0≤IntKind.u64.wrap (ai .sub .i64 c v)*IntKind.u64.wrap p%18446744073709551616) (.s (IntKind.u64.wrap (ai .sub .i64 c v)*IntKind.u64.wrap p / 18446744073709551616<18446744073709551616) (.s (0≤IntKind.u64.wrap (ai .sub .i64 c v)*IntKind.u64.wrap p / 18446744073709551616) (.s ((kN p v q c)%18446744073709551616<18446744073709551616) (.s (0≤(kN p v q c)%18446744073709551616) (.s ((kN p v q c) / 18446744073709551616<18446744073709551616) (.s (0≤(kN p v q c) / 18446744073709551616) (.s (IntKind.u64.wrap r<4294967296) (.s (0<IntKind.u64.wrap r) (.e (ah .neq (Dz r p v q c) 0) (.p (.c 4) (.lf (D.aS [u64 18446744073709551615,i64 0]))) (.p (.c 3) (.e (Dj r p v q t c) (.lf (D.aS [u64 18446744073709551615,i64 0])) (.lf (D.aS [u64 (yC r p v q c),i64 0]))))))))))))))))))))))))))))))
theorem uS (b r p v q t c:Int) (res:D) (h0:Az res (jw b r p v q t c) [true]) (h1:Az res (jw b r p v q t c) [false,true]) (h2:Az res (jw b r p v q t c) [false,false,true]) (h3:Az res (jw b r p v q t c) [false,false,false,true]) (h4:Az res (jw b r p v q t c) [false,false,false,false,true]) (h5:Az res (jw b r p v q t c) [false,false,false,false,false,true]) (h6:Az res (jw b r p v q t c) [false,false,false,false,false,false,true]) (h7:Az res (jw b r p v q t c) [false,false,false,false,false,false,false]):Kl 86 [D.agg [i64 b,i64 r,i64 p,i64 v,i64 q,u64 t],i64 c] res:=fA (abL) (jw b r p v q t c) ⟨h0,fun e0=>⟨h1 e0,fun e1=>⟨h2 e0 e1,fun e2=>⟨h3 e0 e1 e2,fun e3=>⟨h4 e0 e1 e2 e3,fun e4=>⟨h5 e0 e1 e2 e3 e4,fun e5=>⟨h6 e0 e1 e2 e3 e4 e5,h7 e0 e1 e2 e3 e4 e5⟩⟩⟩⟩⟩⟩⟩
def GR (b r p v q t n:Int):Tr D:= .s (v<9223372036854775808) (.s (-9223372036854775808≤v) (.e (ah .neq (iJ b r p v q) 0) (.lf (D.aS [D.agg [i64 0,i64 0,i64 0,i64 0,i64 0,u64 0],i64 (iJ b r p v q)])) (.s (n<18446744073709551616) (.s (0≤n) (.s (t<18446744073709551616) (.s (0≤t) (.s (iJ b r p v q=0) (.lf (D.aS [D.agg [i64 b,i64 r,i64 p,i64 (bK b r p v q t n),i64 (jI b r p v q t n),u64 (jF t n)],i64 0])))))))))
theorem Uj (b r p v q t n:Int) (res:D) (h0:Az res (GR b r p v q t n) [true]) (h1:Az res (GR b r p v q t n) [false]):Kl 20 [D.agg [i64 b,i64 r,i64 p,i64 v,i64 q,u64 t],u64 n] res:=fA (abL) (GR b r p v q t n) ⟨h0,h1⟩
theorem aeM (b r p v q t n:Int) (h:iJ b r p v q=0) (t0:0≤t) (t1:t<18446744073709551616) (n0:0≤n) (n1:n<18446744073709551616):
  Kl 20 [.agg [i64 b,i64 r,i64 p,i64 v,i64 q,u64 t],u64 n] (.aS [.agg [i64 b,i64 r,i64 p,i64 (bK b r p v q t n),i64 (jI b r p v q t n),u64 (jF t n)],i64 0]):=by
 obtain⟨hl,v0,vb,q0,qp,_⟩:=jg h
 obtain⟨b0,b1,r0,r1,p0,p1⟩:=iq hl
 refine Uj b r p v q t n _ ?_ ?_<;>dsimp only[Az,Rg,At,Tr.q,Tr.e,GR]
 ·intro a;rw[aI] at a;exact absurd h a
 ·intro _;exact⟨⟨h,t0,t1,n0,n1,by omega,by omega,trivial⟩,rfl⟩
theorem ZM (b r p v q t c:Int) (h:iJ b r p v q=0) (t0:0≤t) (t1:t<18446744073709551616) (c0:0≤c) (c1:c<9223372036854775808):
  Kl 86 [.agg [i64 b,i64 r,i64 p,i64 v,i64 q,u64 t],i64 c] (.aS [u64 (vK b r p v q t c),i64 0]):=by
 obtain⟨hl,v0,vb,q0,qp,_⟩:=jg h
 obtain⟨b0,b1,r0,r1,p0,p1⟩:=iq hl
 by_cases hv:c≤v
 ·refine uS b r p v q t c _ ?_ ?_ ?_ ?_ ?_ ?_ ?_ ?_<;>dsimp only[Az,Rg,At,Tr.q,Tr.e,jw]
  ·intro a;rw[aI] at a;exact absurd h a
  ·intro _ a;rw[aP] at a;omega
  ·intro _ _ _;refine⟨⟨by omega,by omega,trivial⟩,?_⟩;unfold vK;rw[if_pos hv]
  all_goals
   intro _ _ a;rw[SG] at a;omega
 by_cases hb:b<c∨r=0
 ·have hw:vK b r p v q t c=18446744073709551615:=by unfold vK;rw[if_neg hv,if_pos hb]
  rw[hw]
  refine uS b r p v q t c _ ?_ ?_ ?_ ?_ ?_ ?_ ?_ ?_<;>dsimp only[Az,Rg,At,Tr.q,Tr.e,jw]
  ·intro a;rw[aI] at a;exact absurd h a
  ·intro _ a;rw[aP] at a;omega
  ·intro _ _ a;rw[adb] at a;omega
  ·intros;exact⟨⟨by omega,by omega,trivial⟩,rfl⟩
  ·intros;exact⟨⟨by omega,by omega,trivial⟩,rfl⟩
  all_goals
   intro _ _ _ a a2;rw[iD] at a;rw[bV] at a2;omega
 have es:ai .sub .i64 c v=c - v:=by rw[dG,aY (by omega) (by omega)]
 have ws:IntKind.wrap .u64 (c - v)=c - v:=bC (by omega) (by omega)
 have wr:IntKind.wrap .u64 r=r:=bC (by omega) (by omega)
 have wp:IntKind.wrap .u64 p=p:=bC (by omega) (by omega)
 have wq:IntKind.wrap .u64 q=q:=bC (by omega) (by omega)
 have m0:p≤(c - v)*p:=by
  have:=Int.mul_le_mul_of_nonneg_right (show 1≤c - v by omega) (show 0≤p by omega);omega
 have m1:(c - v)*p≤1000000000000000000:=by
  have h1:=Int.mul_le_mul_of_nonneg_right (show c - v≤1000000000 by omega) (show 0≤p by omega)
  omega
 have et:ai .sub .u64 18446744073709551615 t=18446744073709551615 - t:=by rw[dG,bC (by omega) (by omega)]
 generalize hm:(c - v)*p=m at *
 have u0:0≤MX (m - q) r:=by
  have:=Int.ediv_nonneg (show 0≤m - q by omega) (show 0≤r by omega)
  unfold MX;split<;>omega
 have u1:MX (m - q) r≤m - q:=by
  have e:=Int.mul_ediv_add_emod (m - q) r
  have r0':=Int.emod_nonneg (m - q) (show r≠0 by omega)
  have d0:=Int.ediv_nonneg (show 0≤m - q by omega) (show 0≤r by omega)
  have h1:=Int.mul_le_mul_of_nonneg_right (show 1≤r by omega) d0
  unfold MX;split
  ·omega
  ·have:r*((m - q) / r)=r*((m - q) / r):=rfl
   omega
 have w:m / 18446744073709551616*18446744073709551616+m%18446744073709551616=m:=nT m
 have k2:xX p v q c=m - q:=by
  unfold xX;rw[wq,es,ws,wp,hm,w];rw[if_pos (by omega)];omega
 have k0:kN p v q c=m - q:=by
  unfold kN;rw[wq,es,ws,wp,hm,w];rw[if_pos (by omega)];omega
 have k3:yu p v q c=m - q:=by unfold yu;rw[k2];exact nT _
 have k1:CX p v q c=m - q:=by unfold CX;rw[k0];exact nT _
 have k4:Dz r p v q c=0:=by unfold Dz;rw[k3,wr,if_pos (by omega)]
 have k5:yC r p v q c=MX (m - q) r:=by unfold yC;rw[k3,k1,wr,if_pos (by omega)];omega
 have hw:vK b r p v q t c=if 18446744073709551615 - t<MX (m - q) r then 18446744073709551615 else MX (m - q) r:=by unfold vK;rw[if_neg hv,if_neg hb,hm]
 rw[hw]
 refine uS b r p v q t c _ ?_ ?_ ?_ ?_ ?_ ?_ ?_ ?_<;>dsimp only[Az,Rg,At,Tr.q,Tr.e,jw]
 ·intro a;rw[aI] at a;exact absurd h a
 ·intro _ a;rw[aP] at a;omega
 ·intro _ _ a;rw[adb] at a;omega
 ·intro _ _ _ a;rw[fD] at a;omega
 ·intro _ _ _ _ a;rw[bY] at a;omega
 ·intro _ _ _ _ _ a;rw[k4,aI] at a;exact absurd rfl a
 ·intro _ _ _ _ _ _ a;unfold Dj at a;rw[k5,et,fD] at a;rw[if_pos a]
  simp only[k2,k3,es,ws,wp,wq,wr,hm]
  exact⟨by simp only[and_true];omega,trivial⟩
 ·intro _ _ _ _ _ _ a;unfold Dj at a;rw[k5,et,iD] at a;rw[if_neg (by omega)]
  simp only[k2,k3,k5,es,ws,wp,wq,wr,hm]
  exact⟨by simp only[and_true];omega,trivial⟩
def reC:List D→Option (D×List Prop)
 |[.agg [.v (.int .i64 b), .v (.int .i64 r), .v (.int .i64 p), .v (.int .i64 v), .v (.int .i64 q), .v (.int .u64 t)], .v (.int .u64 n)]=>some (.aS [.agg [i64 b,i64 r,i64 p,i64 (bK b r p v q t n),i64 (jI b r p v q t n),u64 (jF t n)],i64 0],[iJ b r p v q=0,0≤t,t<18446744073709551616,0≤n,n<18446744073709551616])
 |_=>none
theorem alo (args res l) (h:reC args=some (res,l)) (hl:aJ l):Kl 20 args res:=by
 unfold reC at h;split at h
 ·obtain⟨rfl,rfl⟩:=dB h;obtain⟨h0,h1,h2,h3,h4,_⟩:=hl
  exact aeM _ _ _ _ _ _ _ h0 h1 h2 h3 h4
 ·cases h
def waC:List D→Option (D×List Prop)
 |[.agg [.v (.int .i64 b), .v (.int .i64 r), .v (.int .i64 p), .v (.int .i64 v), .v (.int .i64 q), .v (.int .u64 t)], .v (.int .i64 c)]=>some (.aS [u64 (vK b r p v q t c),i64 0],[iJ b r p v q=0,0≤t,t<18446744073709551616,0≤c,c<9223372036854775808])
 |_=>none
theorem amk (args res l) (h:waC args=some (res,l)) (hl:aJ l):Kl 86 args res:=by
 unfold waC at h;split at h
 ·obtain⟨rfl,rfl⟩:=dB h;obtain⟨h0,h1,h2,h3,h4,_⟩:=hl
  exact ZM _ _ _ _ _ _ _ h0 h1 h2 h3 h4
 ·cases h
def X22:aB:=aF 20 (.call reC) (aF 86 (.call waC) X21)
theorem afQ:bT Pg X22:=aj alo (aj amk abL)
abbrev bk1 (b r p v q t:Int):List D:=[i64 b,i64 r,i64 p,i64 v,i64 q,u64 t]
def kT (c x y z:Int):Bool:=decide (c≤x) && (decide (c≤y) && decide (c≤z))
def lv (k:Bool) (x c:Int):Int:=if k=true then x - c else x
def mx3 (x y z:Int):Int:=max (max (max 0 x) y) z
theorem uF {c x y z:Int}:kT c x y z=true↔c≤x∧c≤y∧c≤z:=by simp[kT]
theorem ajR {b r p v q t n:Int} (h:iJ b r p v q=0) (t0:0≤t) (n0:0≤n):iJ b r p (bK b r p v q t n) (jI b r p v q t n)=0:=by
 obtain⟨hl,v0,vb,q0,qp,hq⟩:=jg h
 obtain⟨b0,b1,r0,r1,p0,p1⟩:=iq hl
 unfold bK jI
 by_cases hn:n≤t
 ·rw[if_pos hn,if_pos hn];exact h
 rw[if_neg hn,if_neg hn]
 have i0:0≤AY r q t n:=by
  unfold AY
  have:=Int.mul_nonneg (show 0≤n - t by omega) r0
  omega
 by_cases hb:b - v≤AY r q t n / p
 ·rw[if_pos hb,if_pos hb];unfold iJ;rw[if_pos];exact⟨hl,by omega,by omega,by omega,by omega,by omega⟩
 ·rw[if_neg hb,if_neg hb]
  have d0:=Int.ediv_nonneg i0 (show 0≤p by omega)
  have e0:=Int.emod_nonneg (AY r q t n) (show p≠0 by omega)
  have e1:=Int.emod_lt_of_pos (AY r q t n) (show 0<p by omega)
  unfold iJ;rw[if_pos];exact⟨hl,by omega,by omega,by omega,by omega,by omega⟩
theorem aoA {b r p v q c:Int} {k:Bool} (h:iJ b r p v q=0) (c0:0≤c) (hk:k=true→c≤v):iJ b r p (lv k v c) q=0:=by
 unfold lv
 split
 next e=>
  have:=hk e
  obtain⟨hl,v0,vb,q0,qp,hq⟩:=jg h
  unfold iJ;rw[if_pos];exact⟨hl,by omega,by omega,by omega,by omega,by omega⟩
 next=>exact h
theorem akA {t n:Int} (t0:0≤t) (t1:t<18446744073709551616) (n0:0≤n) (n1:n<18446744073709551616):0≤jF t n∧jF t n<18446744073709551616:=by unfold jF;split<;>omega
theorem J3 {b r p v q t n:Int} (h:iJ b r p v q=0) (t0:0≤t) (n0:0≤n):0≤bK b r p v q t n∧bK b r p v q t n≤b∧b≤1000000000:=by
 obtain⟨hl,h1,h2,_⟩:=jg (ajR h t0 n0)
 obtain⟨b0,b1,_⟩:=iq hl
 exact⟨h1,h2,b1⟩
def yK (b r p v q t b1 r1 p1 v1 q1 t1 b2 r2 p2 v2 q2 t2 n c:Int):Tr D:= .p (.c 0) (.p (.u) (.p (.c 3) (.p (.u) (.p (.c 0) (.s (n<18446744073709551616) (.s (0≤n) (.s (t<18446744073709551616) (.s (0≤t) (.s (iJ b r p v q=0) (.s (n<18446744073709551616) (.s (0≤n) (.s (t1<18446744073709551616) (.s (0≤t1) (.s (iJ b1 r1 p1 v1 q1=0) (.s (n<18446744073709551616) (.s (0≤n) (.s (t2<18446744073709551616) (.s (0≤t2) (.s (iJ b2 r2 p2 v2 q2=0) (.e (ah .lss (bK b r p v q t n) c) (.p (.c 0) (.lf (D.aS [D.ow 3 6 [i64 b,i64 r,i64 p,i64 (bK b r p v q t n),i64 (jI b r p v q t n),u64 (jF t n),i64 b1,i64 r1,i64 p1,i64 (bK b1 r1 p1 v1 q1 t1 n),i64 (jI b1 r1 p1 v1 q1 t1 n),u64 (jF t1 n),i64 b2,i64 r2,i64 p2,i64 (bK b2 r2 p2 v2 q2 t2 n),i64 (jI b2 r2 p2 v2 q2 t2 n),u64 (jF t2 n)],bo false]))) (.p (.c 0) (.e (ah .lss (bK b1 r1 p1 v1 q1 t1 n) c) (.p (.c 0) (.lf (D.aS [D.ow 3 6 [i64 b,i64 r,i64 p,i64 (bK b r p v q t n),i64 (jI b r p v q t n),u64 (jF t n),i64 b1,i64 r1,i64 p1,i64 (bK b1 r1 p1 v1 q1 t1 n),i64 (jI b1 r1 p1 v1 q1 t1 n),u64 (jF t1 n),i64 b2,i64 r2,i64 p2,i64 (bK b2 r2 p2 v2 q2 t2 n),i64 (jI b2 r2 p2 v2 q2 t2 n),u64 (jF t2 n)],bo false]))) (.p (.c 0) (.e (ah .lss (bK b2 r2 p2 v2 q2 t2 n) c) (.p (.c 0) (.lf (D.aS [D.ow 3 6 [i64 b,i64 r,i64 p,i64 (bK b r p v q t n),i64 (jI b r p v q t n),u64 (jF t n),i64 b1,i64 r1,i64 p1,i64 (bK b1 r1 p1 v1 q1 t1 n),i64 (jI b1 r1 p1 v1 q1 t1 n),u64 (jF t1 n),i64 b2,i64 r2,i64 p2,i64 (bK b2 r2 p2 v2 q2 t2 n),i64 (jI b2 r2 p2 v2 q2 t2 n),u64 (jF t2 n)],bo false]))) (.p (.c 1) (.p (.u) (.p (.c 3) (.lf (D.aS [D.ow 3 6 [i64 b,i64 r,i64 p,i64 (ai .sub .i64 (bK b r p v q t n) c),i64 (jI b r p v q t n),u64 (jF t n),i64 b1,i64 r1,i64 p1,i64 (ai .sub .i64 (bK b1 r1 p1 v1 q1 t1 n) c),i64 (jI b1 r1 p1 v1 q1 t1 n),u64 (jF t1 n),i64 b2,i64 r2,i64 p2,i64 (ai .sub .i64 (bK b2 r2 p2 v2 q2 t2 n) c),i64 (jI b2 r2 p2 v2 q2 t2 n),u64 (jF t2 n)],bo true])))))))))))))))))))))))))))))
theorem UR (b r p v q t b1 r1 p1 v1 q1 t1 b2 r2 p2 v2 q2 t2 n c:Int) (res:D) (h0:Az res (yK b r p v q t b1 r1 p1 v1 q1 t1 b2 r2 p2 v2 q2 t2 n c) [true]) (h1:Az res (yK b r p v q t b1 r1 p1 v1 q1 t1 b2 r2 p2 v2 q2 t2 n c) [false,true]) (h2:Az res (yK b r p v q t b1 r1 p1 v1 q1 t1 b2 r2 p2 v2 q2 t2 n c) [false,false,true]) (h3:Az res (yK b r p v q t b1 r1 p1 v1 q1 t1 b2 r2 p2 v2 q2 t2 n c) [false,false,false]):Kl 85 [D.sh 3 (bk1 b r p v q t ++ bk1 b1 r1 p1 v1 q1 t1 ++ bk1 b2 r2 p2 v2 q2 t2),u64 n,i64 c] res:=fA (afQ) (yK b r p v q t b1 r1 p1 v1 q1 t1 b2 r2 p2 v2 q2 t2 n c) ⟨h0,fun e0=>⟨h1 e0,fun e1=>⟨h2 e0 e1,h3 e0 e1⟩⟩⟩
theorem aeG (b r p v q t b1 r1 p1 v1 q1 t1 b2 r2 p2 v2 q2 t2 n c:Int) (h:iJ b r p v q=0) (h':iJ b1 r1 p1 v1 q1=0) (h'':iJ b2 r2 p2 v2 q2=0)
  (t0:0≤t) (u0:t<18446744073709551616) (t01:0≤t1) (u01:t1<18446744073709551616) (t02:0≤t2) (u02:t2<18446744073709551616) (n0:0≤n) (n1:n<18446744073709551616) (c0:0≤c) (c1:c<9223372036854775808):
  Kl 85 [.sh 3 [i64 b,i64 r,i64 p,i64 v,i64 q,u64 t,i64 b1,i64 r1,i64 p1,i64 v1,i64 q1,u64 t1,i64 b2,i64 r2,i64 p2,i64 v2,i64 q2,u64 t2],u64 n,i64 c]
   (.aS [.ow 3 6 [i64 b,i64 r,i64 p,i64 (lv (kT c (bK b r p v q t n) (bK b1 r1 p1 v1 q1 t1 n) (bK b2 r2 p2 v2 q2 t2 n)) (bK b r p v q t n) c),i64 (jI b r p v q t n),u64 (jF t n),
    i64 b1,i64 r1,i64 p1,i64 (lv (kT c (bK b r p v q t n) (bK b1 r1 p1 v1 q1 t1 n) (bK b2 r2 p2 v2 q2 t2 n)) (bK b1 r1 p1 v1 q1 t1 n) c),i64 (jI b1 r1 p1 v1 q1 t1 n),u64 (jF t1 n),
    i64 b2,i64 r2,i64 p2,i64 (lv (kT c (bK b r p v q t n) (bK b1 r1 p1 v1 q1 t1 n) (bK b2 r2 p2 v2 q2 t2 n)) (bK b2 r2 p2 v2 q2 t2 n) c),i64 (jI b2 r2 p2 v2 q2 t2 n),u64 (jF t2 n)],bo (kT c (bK b r p v q t n) (bK b1 r1 p1 v1 q1 t1 n) (bK b2 r2 p2 v2 q2 t2 n))]):=by
 have a0:=J3 h t0 n0
 have a1:=J3 h' t01 n0
 have a2:=J3 h'' t02 n0
 refine UR b r p v q t b1 r1 p1 v1 q1 t1 b2 r2 p2 v2 q2 t2 n c _ ?_ ?_ ?_ ?_<;>dsimp only[Az,Rg,At,Tr.q,Tr.e,yK]
 all_goals
  generalize bK b r p v q t n=x at *
  generalize bK b1 r1 p1 v1 q1 t1 n=y at *
  generalize bK b2 r2 p2 v2 q2 t2 n=z at *
  simp only[aP,aX]
  intros
  refine⟨⟨h'',t02,u02,n0,n1,h',t01,u01,n0,n1,h,t0,u0,n0,n1,trivial⟩,?_⟩
 ·have k:kT c x y z=false:=by rw[Bool.eq_false_iff];intro e;rw[uF] at e;omega
  rw[k];rfl
 ·have k:kT c x y z=false:=by rw[Bool.eq_false_iff];intro e;rw[uF] at e;omega
  rw[k];rfl
 ·have k:kT c x y z=false:=by rw[Bool.eq_false_iff];intro e;rw[uF] at e;omega
  rw[k];rfl
 ·have k:kT c x y z=true:=uF.2 (by omega)
  have e0:ai .sub .i64 x c=x - c:=by rw[dG,aY (by omega) (by omega)]
  have e1:ai .sub .i64 y c=y - c:=by rw[dG,aY (by omega) (by omega)]
  have e2:ai .sub .i64 z c=z - c:=by rw[dG,aY (by omega) (by omega)]
  rw[k,e0,e1,e2];rfl
def akK:List D→Option (D×List Prop)
 |[.sh 3 [.v (.int .i64 b), .v (.int .i64 r), .v (.int .i64 p), .v (.int .i64 v), .v (.int .i64 q), .v (.int .u64 t), .v (.int .i64 b1), .v (.int .i64 r1), .v (.int .i64 p1), .v (.int .i64 v1), .v (.int .i64 q1), .v (.int .u64 t1), .v (.int .i64 b2), .v (.int .i64 r2), .v (.int .i64 p2), .v (.int .i64 v2), .v (.int .i64 q2), .v (.int .u64 t2)], .v (.int .u64 n), .v (.int .i64 c)]=>some ((.aS [.ow 3 6 [i64 b,i64 r,i64 p,i64 (lv (kT c (bK b r p v q t n) (bK b1 r1 p1 v1 q1 t1 n) (bK b2 r2 p2 v2 q2 t2 n)) (bK b r p v q t n) c),i64 (jI b r p v q t n),u64 (jF t n),i64 b1,i64 r1,i64 p1,i64 (lv (kT c (bK b r p v q t n) (bK b1 r1 p1 v1 q1 t1 n) (bK b2 r2 p2 v2 q2 t2 n)) (bK b1 r1 p1 v1 q1 t1 n) c),i64 (jI b1 r1 p1 v1 q1 t1 n),u64 (jF t1 n),i64 b2,i64 r2,i64 p2,i64 (lv (kT c (bK b r p v q t n) (bK b1 r1 p1 v1 q1 t1 n) (bK b2 r2 p2 v2 q2 t2 n)) (bK b2 r2 p2 v2 q2 t2 n) c),i64 (jI b2 r2 p2 v2 q2 t2 n),u64 (jF t2 n)],bo (kT c (bK b r p v q t n) (bK b1 r1 p1 v1 q1 t1 n) (bK b2 r2 p2 v2 q2 t2 n))]),[iJ b r p v q=0,iJ b1 r1 p1 v1 q1=0,iJ b2 r2 p2 v2 q2=0,0≤t,t<18446744073709551616,0≤t1,t1<18446744073709551616,0≤t2,t2<18446744073709551616,0≤n,n<18446744073709551616,0≤c,c<9223372036854775808])
 |_=>none
theorem ahb (args res l) (h:akK args=some (res,l)) (hl:aJ l):Kl 85 args res:=by
 unfold akK at h;split at h
 ·obtain⟨rfl,rfl⟩:=dB h;obtain⟨h0,h1,h2,h3,h4,h5,h6,h7,h8,h9,h10,h11,h12,_⟩:=hl
  exact aeG _ _ _ _ _ _ _ _ _ _ _ _ _ _ _ _ _ _ _ _ h0 h1 h2 h3 h4 h5 h6 h7 h8 h9 h10 h11 h12
 ·cases h
def X23:aB:=aF 85 (.call akK) X22
theorem IE:bT Pg X23:=aj ahb afQ
theorem Q7 (p q:Int):jJ .gtr p q=max p q:=by
 unfold jJ
 cases h:ah .gtr q p with
 |true=>rw[fD] at h;show q=max p q;omega
 |false=>rw[iD] at h;show p=max p q;omega
def uK (b r p v q t b1 r1 p1 v1 q1 t1 b2 r2 p2 v2 q2 t2 n c:Int):Tr D:= .p (.c 0) (.p (.u) (.p (.c 0) (.s (v<9223372036854775808) (.s (-9223372036854775808≤v) (.d (ah .neq (iJ b r p v q) 0) (fun e0=> .p (.d true) (.k _ e0 (.lf (D.aS [bZ,bo false,i64 (iJ b r p v q)])))) (fun e0=> .p (.c 0) (.s (v1<9223372036854775808) (.s (-9223372036854775808≤v1) (.d (ah .neq (iJ b1 r1 p1 v1 q1) 0) (fun e1=> .p (.d true) (.k _ e1 (.lf (D.aS [bZ,bo false,i64 (iJ b1 r1 p1 v1 q1)])))) (fun e1=> .p (.c 0) (.s (v2<9223372036854775808) (.s (-9223372036854775808≤v2) (.d (ah .neq (iJ b2 r2 p2 v2 q2) 0) (fun e2=> .p (.d true) (.k _ e2 (.lf (D.aS [bZ,bo false,i64 (iJ b2 r2 p2 v2 q2)])))) (fun e2=> .p (.c 0) (.p (.u) (.p (.c 0) (.e (ah .lss c 0) (.p (.c 1) (.lf (D.aS [bZ,bo false,i64 2]))) (.p (.c 2) (.s (c<9223372036854775808) (.s (0≤c) (.s (n<18446744073709551616) (.s (0≤n) (.s (t2<18446744073709551616) (.s (0≤t2) (.s (t1<18446744073709551616) (.s (0≤t1) (.s (t<18446744073709551616) (.s (0≤t) (.s (iJ b2 r2 p2 v2 q2=0) (.s (iJ b1 r1 p1 v1 q1=0) (.s (iJ b r p v q=0) (.lf (D.aS [D.ow 3 6 [i64 b,i64 r,i64 p,i64 (lv (kT c (bK b r p v q t n) (bK b1 r1 p1 v1 q1 t1 n) (bK b2 r2 p2 v2 q2 t2 n)) (bK b r p v q t n) c),i64 (jI b r p v q t n),u64 (jF t n),i64 b1,i64 r1,i64 p1,i64 (lv (kT c (bK b r p v q t n) (bK b1 r1 p1 v1 q1 t1 n) (bK b2 r2 p2 v2 q2 t2 n)) (bK b1 r1 p1 v1 q1 t1 n) c),i64 (jI b1 r1 p1 v1 q1 t1 n),u64 (jF t1 n),i64 b2,i64 r2,i64 p2,i64 (lv (kT c (bK b r p v q t n) (bK b1 r1 p1 v1 q1 t1 n) (bK b2 r2 p2 v2 q2 t2 n)) (bK b2 r2 p2 v2 q2 t2 n) c),i64 (jI b2 r2 p2 v2 q2 t2 n),u64 (jF t2 n)],D.v (Value.bool (kT c (bK b r p v q t n) (bK b1 r1 p1 v1 q1 t1 n) (bK b2 r2 p2 v2 q2 t2 n))),i64 0])))))))))))))))))))))))))))))))))
theorem RD (b r p v q t b1 r1 p1 v1 q1 t1 b2 r2 p2 v2 q2 t2 n c:Int) (res:D) (h0:Az res (uK b r p v q t b1 r1 p1 v1 q1 t1 b2 r2 p2 v2 q2 t2 n c) [true]) (h1:Az res (uK b r p v q t b1 r1 p1 v1 q1 t1 b2 r2 p2 v2 q2 t2 n c) [false,true]) (h2:Az res (uK b r p v q t b1 r1 p1 v1 q1 t1 b2 r2 p2 v2 q2 t2 n c) [false,false,true]) (h3:Az res (uK b r p v q t b1 r1 p1 v1 q1 t1 b2 r2 p2 v2 q2 t2 n c) [false,false,false,true]) (h4:Az res (uK b r p v q t b1 r1 p1 v1 q1 t1 b2 r2 p2 v2 q2 t2 n c) [false,false,false,false]):Kl 42 [D.sh 3 (bk1 b r p v q t ++ bk1 b1 r1 p1 v1 q1 t1 ++ bk1 b2 r2 p2 v2 q2 t2),u64 n,i64 c] res:=fA (IE) (uK b r p v q t b1 r1 p1 v1 q1 t1 b2 r2 p2 v2 q2 t2 n c) ⟨h0,fun e0=>⟨h1 e0,fun e1=>⟨h2 e0 e1,fun e2=>⟨h3 e0 e1 e2,h4 e0 e1 e2⟩⟩⟩⟩
def uH (b r p v q t b1 r1 p1 v1 q1 t1 b2 r2 p2 v2 q2 t2 c:Int):Tr D:= .p (.c 0) (.p (.u) (.p (.c 0) (.s (v<9223372036854775808) (.s (-9223372036854775808≤v) (.d (ah .neq (iJ b r p v q) 0) (fun e0=> .p (.d true) (.k _ e0 (.lf (D.aS [u64 0,i64 (iJ b r p v q)])))) (fun e0=> .p (.c 0) (.s (v1<9223372036854775808) (.s (-9223372036854775808≤v1) (.d (ah .neq (iJ b1 r1 p1 v1 q1) 0) (fun e1=> .p (.d true) (.k _ e1 (.lf (D.aS [u64 0,i64 (iJ b1 r1 p1 v1 q1)])))) (fun e1=> .p (.c 0) (.s (v2<9223372036854775808) (.s (-9223372036854775808≤v2) (.d (ah .neq (iJ b2 r2 p2 v2 q2) 0) (fun e2=> .p (.d true) (.k _ e2 (.lf (D.aS [u64 0,i64 (iJ b2 r2 p2 v2 q2)])))) (fun e2=> .p (.c 0) (.p (.u) (.p (.c 0) (.e (ah .lss c 0) (.p (.c 1) (.lf (D.aS [u64 0,i64 2]))) (.p (.c 2) (.p (.u) (.p (.c 3) (.s (c<9223372036854775808) (.s (0≤c) (.s (t<18446744073709551616) (.s (0≤t) (.s (iJ b r p v q=0) (.s (c<9223372036854775808) (.s (0≤c) (.s (t1<18446744073709551616) (.s (0≤t1) (.s (iJ b1 r1 p1 v1 q1=0) (.s (c<9223372036854775808) (.s (0≤c) (.s (t2<18446744073709551616) (.s (0≤t2) (.s (iJ b2 r2 p2 v2 q2=0) (.lf (D.aS [u64 (jJ .gtr (jJ .gtr (jJ .gtr 0 (vK b r p v q t c)) (vK b1 r1 p1 v1 q1 t1 c)) (vK b2 r2 p2 v2 q2 t2 c)),i64 0])))))))))))))))))))))))))))))))))))))
theorem SB (b r p v q t b1 r1 p1 v1 q1 t1 b2 r2 p2 v2 q2 t2 c:Int) (res:D) (h0:Az res (uH b r p v q t b1 r1 p1 v1 q1 t1 b2 r2 p2 v2 q2 t2 c) [true]) (h1:Az res (uH b r p v q t b1 r1 p1 v1 q1 t1 b2 r2 p2 v2 q2 t2 c) [false,true]) (h2:Az res (uH b r p v q t b1 r1 p1 v1 q1 t1 b2 r2 p2 v2 q2 t2 c) [false,false,true]) (h3:Az res (uH b r p v q t b1 r1 p1 v1 q1 t1 b2 r2 p2 v2 q2 t2 c) [false,false,false,true]) (h4:Az res (uH b r p v q t b1 r1 p1 v1 q1 t1 b2 r2 p2 v2 q2 t2 c) [false,false,false,false]):Kl 44 [D.sh 3 (bk1 b r p v q t ++ bk1 b1 r1 p1 v1 q1 t1 ++ bk1 b2 r2 p2 v2 q2 t2),i64 c] res:=fA (IE) (uH b r p v q t b1 r1 p1 v1 q1 t1 b2 r2 p2 v2 q2 t2 c) ⟨h0,fun e0=>⟨h1 e0,fun e1=>⟨h2 e0 e1,fun e2=>⟨h3 e0 e1 e2,h4 e0 e1 e2⟩⟩⟩⟩
theorem UM (b r p v q t b1 r1 p1 v1 q1 t1 b2 r2 p2 v2 q2 t2 n c:Int) (h:iJ b r p v q=0) (h':iJ b1 r1 p1 v1 q1=0) (h'':iJ b2 r2 p2 v2 q2=0)
  (t0:0≤t) (u0:t<18446744073709551616) (t01:0≤t1) (u01:t1<18446744073709551616) (t02:0≤t2) (u02:t2<18446744073709551616) (n0:0≤n) (n1:n<18446744073709551616) (c0:0≤c) (c1:c<9223372036854775808):
  Kl 42 [.sh 3 [i64 b,i64 r,i64 p,i64 v,i64 q,u64 t,i64 b1,i64 r1,i64 p1,i64 v1,i64 q1,u64 t1,i64 b2,i64 r2,i64 p2,i64 v2,i64 q2,u64 t2],u64 n,i64 c]
   (.aS [.ow 3 6 [i64 b,i64 r,i64 p,i64 (lv (kT c (bK b r p v q t n) (bK b1 r1 p1 v1 q1 t1 n) (bK b2 r2 p2 v2 q2 t2 n)) (bK b r p v q t n) c),i64 (jI b r p v q t n),u64 (jF t n),
    i64 b1,i64 r1,i64 p1,i64 (lv (kT c (bK b r p v q t n) (bK b1 r1 p1 v1 q1 t1 n) (bK b2 r2 p2 v2 q2 t2 n)) (bK b1 r1 p1 v1 q1 t1 n) c),i64 (jI b1 r1 p1 v1 q1 t1 n),u64 (jF t1 n),
    i64 b2,i64 r2,i64 p2,i64 (lv (kT c (bK b r p v q t n) (bK b1 r1 p1 v1 q1 t1 n) (bK b2 r2 p2 v2 q2 t2 n)) (bK b2 r2 p2 v2 q2 t2 n) c),i64 (jI b2 r2 p2 v2 q2 t2 n),u64 (jF t2 n)],bo (kT c (bK b r p v q t n) (bK b1 r1 p1 v1 q1 t1 n) (bK b2 r2 p2 v2 q2 t2 n)),i64 0]):=by
 obtain⟨hl,v0,vb,_⟩:=jg h
 obtain⟨b0,b1',_⟩:=iq hl
 obtain⟨hl',v0',vb',_⟩:=jg h'
 obtain⟨b0',b1'',_⟩:=iq hl'
 obtain⟨hl'',v0'',vb'',_⟩:=jg h''
 obtain⟨b0'',b1''',_⟩:=iq hl''
 refine RD b r p v q t b1 r1 p1 v1 q1 t1 b2 r2 p2 v2 q2 t2 n c _ ?_ ?_ ?_ ?_ ?_<;>dsimp only[Az,Rg,At,Tr.q,Tr.e,uK]
 all_goals
  simp only[aI,aQ,aP,aX]
  intros
 ·exact absurd h ‹_›
 ·exact absurd h' ‹_›
 ·exact absurd h'' ‹_›
 ·omega
 ·exact⟨⟨h,h',h'',t0,u0,t01,u01,t02,u02,n0,n1,c0,c1,by omega,by omega,by omega,by omega,by omega,by omega,trivial⟩,trivial⟩
theorem TW (b r p v q t b1 r1 p1 v1 q1 t1 b2 r2 p2 v2 q2 t2 c:Int) (h:iJ b r p v q=0) (h':iJ b1 r1 p1 v1 q1=0) (h'':iJ b2 r2 p2 v2 q2=0)
  (t0:0≤t) (u0:t<18446744073709551616) (t01:0≤t1) (u01:t1<18446744073709551616) (t02:0≤t2) (u02:t2<18446744073709551616) (c0:0≤c) (c1:c<9223372036854775808):
  Kl 44 [.sh 3 [i64 b,i64 r,i64 p,i64 v,i64 q,u64 t,i64 b1,i64 r1,i64 p1,i64 v1,i64 q1,u64 t1,i64 b2,i64 r2,i64 p2,i64 v2,i64 q2,u64 t2],i64 c]
   (.aS [u64 (mx3 (vK b r p v q t c) (vK b1 r1 p1 v1 q1 t1 c) (vK b2 r2 p2 v2 q2 t2 c)),i64 0]):=by
 obtain⟨hl,v0,vb,_⟩:=jg h
 obtain⟨b0,b1',_⟩:=iq hl
 obtain⟨hl',v0',vb',_⟩:=jg h'
 obtain⟨b0',b1'',_⟩:=iq hl'
 obtain⟨hl'',v0'',vb'',_⟩:=jg h''
 obtain⟨b0'',b1''',_⟩:=iq hl''
 refine SB b r p v q t b1 r1 p1 v1 q1 t1 b2 r2 p2 v2 q2 t2 c _ ?_ ?_ ?_ ?_ ?_<;>dsimp only[Az,Rg,At,Tr.q,Tr.e,uH]
 all_goals
  simp only[aI,aQ,aP,aX]
  intros
 ·exact absurd h ‹_›
 ·exact absurd h' ‹_›
 ·exact absurd h'' ‹_›
 ·omega
 ·refine⟨⟨h'',t02,u02,c0,c1,h',t01,u01,c0,c1,h,t0,u0,c0,c1,by omega,by omega,by omega,by omega,by omega,by omega,trivial⟩,?_⟩
  simp only[Q7];rfl
def alN:List D→Option (D×List Prop)
 |[.sh 3 [.v (.int .i64 b), .v (.int .i64 r), .v (.int .i64 p), .v (.int .i64 v), .v (.int .i64 q), .v (.int .u64 t), .v (.int .i64 b1), .v (.int .i64 r1), .v (.int .i64 p1), .v (.int .i64 v1), .v (.int .i64 q1), .v (.int .u64 t1), .v (.int .i64 b2), .v (.int .i64 r2), .v (.int .i64 p2), .v (.int .i64 v2), .v (.int .i64 q2), .v (.int .u64 t2)], .v (.int .u64 n), .v (.int .i64 c)]=>some ((.aS [.ow 3 6 [i64 b,i64 r,i64 p,i64 (lv (kT c (bK b r p v q t n) (bK b1 r1 p1 v1 q1 t1 n) (bK b2 r2 p2 v2 q2 t2 n)) (bK b r p v q t n) c),i64 (jI b r p v q t n),u64 (jF t n),i64 b1,i64 r1,i64 p1,i64 (lv (kT c (bK b r p v q t n) (bK b1 r1 p1 v1 q1 t1 n) (bK b2 r2 p2 v2 q2 t2 n)) (bK b1 r1 p1 v1 q1 t1 n) c),i64 (jI b1 r1 p1 v1 q1 t1 n),u64 (jF t1 n),i64 b2,i64 r2,i64 p2,i64 (lv (kT c (bK b r p v q t n) (bK b1 r1 p1 v1 q1 t1 n) (bK b2 r2 p2 v2 q2 t2 n)) (bK b2 r2 p2 v2 q2 t2 n) c),i64 (jI b2 r2 p2 v2 q2 t2 n),u64 (jF t2 n)],bo (kT c (bK b r p v q t n) (bK b1 r1 p1 v1 q1 t1 n) (bK b2 r2 p2 v2 q2 t2 n)),i64 0]),[iJ b r p v q=0,iJ b1 r1 p1 v1 q1=0,iJ b2 r2 p2 v2 q2=0,0≤t,t<18446744073709551616,0≤t1,t1<18446744073709551616,0≤t2,t2<18446744073709551616,0≤n,n<18446744073709551616,0≤c,c<9223372036854775808])
 |_=>none
theorem agq (args res l) (h:alN args=some (res,l)) (hl:aJ l):Kl 42 args res:=by
 unfold alN at h;split at h
 ·obtain⟨rfl,rfl⟩:=dB h;obtain⟨h0,h1,h2,h3,h4,h5,h6,h7,h8,h9,h10,h11,h12,_⟩:=hl
  exact UM _ _ _ _ _ _ _ _ _ _ _ _ _ _ _ _ _ _ _ _ h0 h1 h2 h3 h4 h5 h6 h7 h8 h9 h10 h11 h12
 ·cases h
def lwC:List D→Option (D×List Prop)
 |[.sh 3 [.v (.int .i64 b), .v (.int .i64 r), .v (.int .i64 p), .v (.int .i64 v), .v (.int .i64 q), .v (.int .u64 t), .v (.int .i64 b1), .v (.int .i64 r1), .v (.int .i64 p1), .v (.int .i64 v1), .v (.int .i64 q1), .v (.int .u64 t1), .v (.int .i64 b2), .v (.int .i64 r2), .v (.int .i64 p2), .v (.int .i64 v2), .v (.int .i64 q2), .v (.int .u64 t2)], .v (.int .i64 c)]=>some ((.aS [u64 (mx3 (vK b r p v q t c) (vK b1 r1 p1 v1 q1 t1 c) (vK b2 r2 p2 v2 q2 t2 c)),i64 0]),[iJ b r p v q=0,iJ b1 r1 p1 v1 q1=0,iJ b2 r2 p2 v2 q2=0,0≤t,t<18446744073709551616,0≤t1,t1<18446744073709551616,0≤t2,t2<18446744073709551616,0≤c,c<9223372036854775808])
 |_=>none
theorem Xo (args res l) (h:lwC args=some (res,l)) (hl:aJ l):Kl 44 args res:=by
 unfold lwC at h;split at h
 ·obtain⟨rfl,rfl⟩:=dB h;obtain⟨h0,h1,h2,h3,h4,h5,h6,h7,h8,h9,h10,_⟩:=hl
  exact TW _ _ _ _ _ _ _ _ _ _ _ _ _ _ _ _ _ _ _ h0 h1 h2 h3 h4 h5 h6 h7 h8 h9 h10
 ·cases h
def X24:aB:=aF 42 (.call alN) (aF 44 (.call lwC) X23)
theorem Ws:bT Pg X24:=aj agq (aj Xo IE)
def KN (p r v q c:Int):Int:=if c≤v then 0 else MX ((c - v)*p - q) r
theorem ak3 {a d m:Int} (hd:0<d) (ha:0<a):MX a d≤m↔a≤m*d:=by
 have e:=Int.mul_ediv_add_emod a d
 have r0:=Int.emod_nonneg a (show d≠0 by omega)
 have r1:=Int.emod_lt_of_pos a hd
 unfold MX
 split
 next h=>
  have key:a / d≤m↔a / d*d≤m*d:=⟨fun h=>Int.mul_le_mul_of_nonneg_right h (by omega),fun h=>Int.le_of_mul_le_mul_right h hd⟩
  have e':a / d*d=a:=by rw[Int.mul_comm];omega
  rw[key,e']
 next h=>
  have e':a / d*d=a - a%d:=by rw[Int.mul_comm];omega
  constructor
  ·intro hm
   have:=Int.mul_le_mul_of_nonneg_right hm (show 0≤d by omega)
   rw[Int.add_mul,Int.one_mul] at this
   omega
  ·intro hm
   have:a / d*d<m*d:=by omega
   have:=Int.lt_of_mul_lt_mul_right this (by omega)
   omega
theorem JU {b r p v q t c m:Int} (h:iJ b r p v q=0) (hc:c≤v∨(c≤b∧0<r)) (m0:0≤m):c≤bK b r p v q t (t+m)↔KN p r v q c≤m:=by
 obtain⟨hl,v0,vb,q0,qp,hqq⟩:=jg h
 obtain⟨b0,b1,r0,r1,p0,p1⟩:=iq hl
 have hN:AY r q t (t+m)=m*r+q:=by unfold AY;rw[show t+m - t=m by omega]
 have n0:0≤m*r:=Int.mul_nonneg m0 r0
 have d0:0≤(m*r+q) / p:=Int.ediv_nonneg (by omega) (by omega)
 have hV:v≤bK b r p v q t (t+m):=by
  unfold bK;rw[hN];(repeat' split)<;>omega
 unfold KN
 by_cases hv:c≤v
 ·rw[if_pos hv];constructor<;>intro<;>omega
 rw[if_neg hv]
 have hb:c≤b∧0<r:=by omega
 have m0':p≤(c - v)*p:=by
  have:=Int.mul_le_mul_of_nonneg_right (show 1≤c - v by omega) (show 0≤p by omega);omega
 rw[ak3 hb.2 (by omega)]
 have hd:c - v≤(m*r+q) / p↔(c - v)*p≤m*r+q:=Int.le_ediv_iff_mul_le (by omega)
 unfold bK
 rw[hN]
 by_cases hm:t+m≤t
 ·obtain rfl:m=0:=by omega
  rw[if_pos hm];constructor<;>intro<;>omega
 rw[if_neg hm]
 split<;>constructor<;>intro<;>omega
theorem aao {b r p v q t c:Int} (h:iJ b r p v q=0) (t0:0≤t) (t1:t<18446744073709551616) (hf:bK b r p v q t 18446744073709551615<c):vK b r p v q t c=18446744073709551615:=by
 obtain⟨hl,v0,vb,q0,qp,hqq⟩:=jg h
 obtain⟨b0,b1,r0,r1,p0,p1⟩:=iq hl
 have hN:AY r q t 18446744073709551615=(18446744073709551615 - t)*r+q:=rfl
 have n0:0≤(18446744073709551615 - t)*r:=Int.mul_nonneg (by omega) r0
 have d0:0≤((18446744073709551615 - t)*r+q) / p:=Int.ediv_nonneg (by omega) (by omega)
 have hv:¬ c≤v:=by
  unfold bK at hf;rw[hN] at hf;(repeat' split at hf)<;>omega
 unfold vK
 rw[if_neg hv]
 by_cases hb:b<c∨r=0
 ·rw[if_pos hb]
 rw[if_neg hb]
 have key:=(JU (t:=t) (c:=c) (m:=18446744073709551615 - t) h (by omega) (by omega)).2
 rw[show t+(18446744073709551615 - t)=18446744073709551615 by omega] at key
 have this:¬ KN p r v q c≤18446744073709551615 - t:=fun g=>by have:=key g;omega
 unfold KN at this
 rw[if_neg hv] at this
 rw[if_pos (by omega)]
theorem abf {b r p v q t c:Int} (h:iJ b r p v q=0) (t0:0≤t) (t1:t<18446744073709551616) (hf:¬ bK b r p v q t 18446744073709551615<c):
  (c≤v∨(c≤b∧0<r))∧vK b r p v q t c=KN p r v q c∧0≤KN p r v q c∧KN p r v q c≤18446744073709551615 - t:=by
 obtain⟨hl,v0,vb,q0,qp,hqq⟩:=jg h
 obtain⟨b0,b1,r0,r1,p0,p1⟩:=iq hl
 by_cases hv:c≤v
 ·refine⟨.inl hv,?_,?_,?_⟩
  ·unfold vK KN;rw[if_pos hv,if_pos hv]
  ·unfold KN;rw[if_pos hv];omega
  ·unfold KN;rw[if_pos hv];omega
 have hb:c≤b:=by
  have:=(J3 h t0 (show(0:Int)≤18446744073709551615 by omega)).2.1
  omega
 have hr:0<r:=by
  rcases Int.lt_or_eq_of_le r0 with g | g
  ·exact g
  ·subst g
   exfalso
   have hN:AY 0 q t 18446744073709551615=q:=by unfold AY;rw[Int.mul_zero];omega
   have d:q / p=0:=Int.ediv_eq_zero_of_lt q0 qp
   unfold bK at hf;rw[hN,d] at hf;(repeat' split at hf)<;>omega
 have m0':p≤(c - v)*p:=by
  have:=Int.mul_le_mul_of_nonneg_right (show 1≤c - v by omega) (show 0≤p by omega);omega
 have key:=(JU (t:=t) (c:=c) (m:=18446744073709551615 - t) h (by omega) (by omega)).1
 rw[show t+(18446744073709551615 - t)=18446744073709551615 by omega] at key
 have k:=key (by omega)
 have k0:0≤KN p r v q c:=by
  unfold KN;rw[if_neg hv]
  have:=Int.ediv_nonneg (show 0≤(c - v)*p - q by omega) r0
  unfold MX;split<;>omega
 refine⟨.inr ⟨hb,hr⟩,?_,k0,k⟩
 unfold KN at k ⊢
 rw[if_neg hv] at k ⊢
 unfold vK
 rw[if_neg hv,if_neg (by omega),if_neg (by omega)]
def vU (c o lo hi b r p v q t:Int):Cs:=⟨TT.of [(1,(D.v (Value.int .i64 c))),(2,(D.ptr 64 0)),(4,(D.v (Value.int .u64 o))),(5,(D.v (Value.int .u64 lo))),(6,(D.v (Value.int .u64 hi)))],38,[],[(64,(BX.cells [(D.v (Value.int .i64 b)),(D.v (Value.int .i64 r)),(D.v (Value.int .i64 p)),(D.v (Value.int .i64 v)),(D.v (Value.int .i64 q)),(D.v (Value.int .u64 t))] false))],none,0⟩
def oQ (lo hi:Int):=ai .quo .u64 (ai .sub .u64 hi lo) 2
def G8 (lo hi t:Int):=ai .add .u64 t (ai .add .u64 lo (oQ lo hi))
def sF (c o lo hi b r p v q t:Int):Tr (Ex×Cs):= .e (ah .lss lo hi) (.q (false) (.s (ai .add .u64 t (ai .add .u64 lo (oQ lo hi))<18446744073709551616) (.s (0≤ai .add .u64 t (ai .add .u64 lo (oQ lo hi))) (.s (t<18446744073709551616) (.s (0≤t) (.s (iJ b r p v q=0) (.e (ah .geq (bK b r p v q t (G8 lo hi t)) c) (.lf (Ex.normal,(vU (c) (o) (lo) (ai .add .u64 lo (oQ lo hi)) (b) (r) (p) (v) (q) (t)))) (.lf (Ex.normal,(vU (c) (o) (ai .add .u64 (ai .add .u64 lo (oQ lo hi)) 1) (hi) (b) (r) (p) (v) (q) (t))))))))))) (.lf (Ex.exit 0,(vU (c) (o) (lo) (hi) (b) (r) (p) (v) (q) (t))))
theorem zZ (c o lo hi b r p v q t:Int) (σ:St) (e:Ex) (h0:Rg 95 0 e σ (sF c o lo hi b r p v q t) [true,true]) (h1:Rg 95 0 e σ (sF c o lo hi b r p v q t) [true,false]) (h2:Rg 95 0 e σ (sF c o lo hi b r p v q t) [false]):Rn 95 0 (vU c o lo hi b r p v q t).abs e σ:=qH (Ws) [[1,2,4,5,6]] [(64,64)] (sF c o lo hi b r p v q t) ⟨fun e0=>⟨h0 e0,h1 e0⟩,h2⟩
def H7 (b r p v q t c:Int):=vU c 0 0 (ai .sub .u64 18446744073709551615 t) b r p v q t
def GH (b r p v q t c w:Int):Tr D:= .s ((18446744073709551615:Int)<(18446744073709551616:Int)) (.s ((0:Int)≤(18446744073709551615:Int)) (.s (t<18446744073709551616) (.s (0≤t) (.s (iJ b r p v q=0) (.e (ah .lss (bK b r p v q t 18446744073709551615) c) (.lf (u64 18446744073709551615)) (.p (.l [[1,2,4,5,6]] [(64,64)] (H7 b r p v q t c) (Ex.exit 0) (vU c 0 w w b r p v q t)) (.s (Rl 95 0 (H7 b r p v q t c).abs (Ex.exit 0) (vU c 0 w w b r p v q t).abs) (.k ((vU c 0 0 (ai .sub .u64 18446744073709551615 t) b r p v q t=vU c 0 0 (ai .sub .u64 18446744073709551615 t) b r p v q t)) rfl (.lf (u64 w))))))))))
theorem UN (b r p v q t c w:Int) (res:D) (h0:Az res (GH b r p v q t c w) [true]) (h1:Az res (GH b r p v q t c w) [false]):Kl 95 [D.agg [i64 b,i64 r,i64 p,i64 v,i64 q,u64 t],i64 c] res:=fA (Ws) (GH b r p v q t c w) ⟨h0,h1⟩
theorem abh (c o b r p v q t:Int) (h:iJ b r p v q=0) (t0:0≤t) (t1:t<18446744073709551616) (hc:c≤v∨(c≤b∧0<r)):∀ (d:Nat) (lo hi:Int),(hi - lo).toNat≤d→0≤lo→lo≤KN p r v q c→KN p r v q c≤hi→hi≤18446744073709551615 - t→
  Rn 95 0 (vU c o lo hi b r p v q t).abs (.exit 0) (vU c o (KN p r v q c) (KN p r v q c) b r p v q t).abs:=by
 intro d
 induction d with
 |zero=>
  intro lo hi hd l0 l1 l2 l3
  obtain rfl:lo=KN p r v q c:=by omega
  obtain rfl:hi=KN p r v q c:=by omega
  refine zZ c o _ _ b r p v q t _ _ ?_ ?_ ?_<;>dsimp only[Az,Rg,At,Tr.q,Tr.e,RG,sF]
  ·intro a;rw[aP] at a;omega
  ·intro a;rw[aP] at a;omega
  ·intro _;exact⟨trivial,rfl,rfl⟩
 |succ d ih=>
  intro lo hi hd l0 l1 l2 l3
  by_cases hlt:lo<hi
  ·have es:ai .sub .u64 hi lo=hi - lo:=by rw[dG,bC (by omega) (by omega)]
   have eq:ai .quo .u64 (hi - lo) 2=(hi - lo) / 2:=by
    show IntKind.u64.wrap ((hi - lo).tdiv 2)=_
    rw[Int.tdiv_eq_ediv_of_nonneg (by omega),bC (by omega) (by omega)]
   have ea:ai .add .u64 lo ((hi - lo) / 2)=lo+(hi - lo) / 2:=by rw[dH,bC (by omega) (by omega)]
   have et:ai .add .u64 t (lo+(hi - lo) / 2)=t+(lo+(hi - lo) / 2):=by rw[dH,bC (by omega) (by omega)]
   have e1:ai .add .u64 (lo+(hi - lo) / 2) 1=lo+(hi - lo) / 2+1:=by rw[dH,bC (by omega) (by omega)]
   have k1:ai .add .u64 lo (oQ lo hi)=lo+(hi - lo) / 2:=by unfold oQ;rw[es,eq,ea]
   have k2:G8 lo hi t=t+(lo+(hi - lo) / 2):=by unfold G8;rw[k1,et]
   have hh:=JU (t:=t) (c:=c) (m:=lo+(hi - lo) / 2) h hc (by omega)
   refine zZ c o lo hi b r p v q t _ _ ?_ ?_ ?_<;>dsimp only[Az,Rg,At,Tr.q,Tr.e,RG,sF]
   all_goals simp only[k1,k2,et,e1,dV,dS,aP,aX]
   ·intro _ a
    exact⟨⟨h,t0,t1,by omega,by omega,trivial⟩,ih lo _ (by omega) l0 l1 (hh.1 a) (by omega)⟩
   ·intro _ a
    have:¬ KN p r v q c≤lo+(hi - lo) / 2:=fun g=>by have:=hh.2 g;omega
    exact⟨⟨h,t0,t1,by omega,by omega,trivial⟩,ih _ hi (by omega) (by omega) (by omega) l2 l3⟩
   ·intro a;omega
  ·obtain rfl:lo=KN p r v q c:=by omega
   obtain rfl:hi=KN p r v q c:=by omega
   refine zZ c o _ _ b r p v q t _ _ ?_ ?_ ?_<;>dsimp only[Az,Rg,At,Tr.q,Tr.e,RG,sF]
   ·intro a;rw[aP] at a;omega
   ·intro a;rw[aP] at a;omega
   ·intro _;exact⟨trivial,rfl,rfl⟩
theorem aaf (b r p v q t c:Int) (h:iJ b r p v q=0) (t0:0≤t) (t1:t<18446744073709551616):Kl 95 [.agg [i64 b,i64 r,i64 p,i64 v,i64 q,u64 t],i64 c] (u64 (vK b r p v q t c)):=by
 have et:ai .sub .u64 18446744073709551615 t=18446744073709551615 - t:=by rw[dG,bC (by omega) (by omega)]
 refine UN b r p v q t c (vK b r p v q t c) _ ?_ ?_<;>dsimp only[Az,Rg,At,Tr.q,Tr.e,GH]
 ·intro a;rw[aP] at a
  refine⟨⟨h,t0,t1,by omega,by omega,trivial⟩,?_⟩
  rw[aao h t0 t1 a]
 ·intro a;rw[aX] at a
  obtain⟨hc,e,k0,k1⟩:=abf (c:=c) h t0 t1 (by omega)
  refine⟨⟨?_,h,t0,t1,by omega,by omega,trivial⟩,rfl⟩
  unfold H7
  rw[et,e]
  exact au (abh c 0 b r p v q t h t0 t1 hc _ 0 _ (Nat.le_refl _) (by omega) k0 k1 (by omega))
def wtC:List D→Option (D×List Prop)
 |[.agg [.v (.int .i64 b), .v (.int .i64 r), .v (.int .i64 p), .v (.int .i64 v), .v (.int .i64 q), .v (.int .u64 t)], .v (.int .i64 c)]=>some (u64 (vK b r p v q t c),[iJ b r p v q=0,0≤t,t<18446744073709551616])
 |_=>none
theorem amP (args res l) (h:wtC args=some (res,l)) (hl:aJ l):Kl 95 args res:=by
 unfold wtC at h;split at h
 ·obtain⟨rfl,rfl⟩:=dB h;obtain⟨h0,h1,h2,_⟩:=hl
  exact aaf _ _ _ _ _ _ _ h0 h1 h2
 ·cases h
def X30:aB:=aF 95 (.call wtC) X24
theorem amx:bT Pg X30:=aj amP Ws
theorem Tc (p q:Int):jJ .lss p q=min p q:=by
 unfold jJ
 cases h:ah .lss q p with
 |true=>rw[aP] at h;show q=min p q;omega
 |false=>rw[aX] at h;show p=min p q;omega
def Bq (b r p v q t b1 r1 p1 v1 q1 t1 b2 r2 p2 v2 q2 t2:Int):Prop:=(iJ b r p v q=0∧iJ b1 r1 p1 v1 q1=0∧iJ b2 r2 p2 v2 q2=0)∧0≤t∧t<18446744073709551616∧0≤t1∧t1<18446744073709551616∧0≤t2∧t2<18446744073709551616
def J5 (n c:Int):Prop:=0≤n∧n<18446744073709551616∧0≤c∧c<9223372036854775808
def Vj (c:Int):Prop:=0≤c∧c<9223372036854775808
def zU (b r p v q t b1 r1 p1 v1 q1 t1 b2 r2 p2 v2 q2 t2 c:Int):Tr D:= .p (.c 0) (.p (.u) (.p (.c 0) (.s (v<9223372036854775808) (.s (-9223372036854775808≤v) (.d (ah .neq (iJ b r p v q) 0) (fun e0=> .p (.c 1) (.p (.u) (.p (.c 0) (.p (.d true) (.s (v<9223372036854775808) (.s (-9223372036854775808≤v) (.k _ e0 (.lf (i64 8))))))))) (fun e0=> .p (.c 0) (.s (v1<9223372036854775808) (.s (-9223372036854775808≤v1) (.d (ah .neq (iJ b1 r1 p1 v1 q1) 0) (fun e1=> .p (.c 1) (.p (.u) (.p (.c 0) (.p (.d false) (.p (.c 0) (.p (.d true) (.s (v<9223372036854775808) (.s (-9223372036854775808≤v) (.k _ e0 (.s (v1<9223372036854775808) (.s (-9223372036854775808≤v1) (.k _ e1 (.lf (i64 8)))))))))))))) (fun e1=> .p (.c 0) (.s (v2<9223372036854775808) (.s (-9223372036854775808≤v2) (.d (ah .neq (iJ b2 r2 p2 v2 q2) 0) (fun e2=> .p (.c 1) (.p (.u) (.p (.c 0) (.p (.d false) (.p (.c 0) (.p (.d false) (.p (.c 0) (.p (.d true) (.s (v<9223372036854775808) (.s (-9223372036854775808≤v) (.k _ e0 (.s (v1<9223372036854775808) (.s (-9223372036854775808≤v1) (.k _ e1 (.s (v2<9223372036854775808) (.s (-9223372036854775808≤v2) (.k _ e2 (.lf (i64 8))))))))))))))))))) (fun e2=> .p (.c 1) (.e (ah .lss c 0) (.lf (i64 2)) (.lf (i64 0)))))))))))))))))
theorem VF (b r p v q t b1 r1 p1 v1 q1 t1 b2 r2 p2 v2 q2 t2 c:Int) (res:D) (h0:Az res (zU b r p v q t b1 r1 p1 v1 q1 t1 b2 r2 p2 v2 q2 t2 c) [true]) (h1:Az res (zU b r p v q t b1 r1 p1 v1 q1 t1 b2 r2 p2 v2 q2 t2 c) [false,true]) (h2:Az res (zU b r p v q t b1 r1 p1 v1 q1 t1 b2 r2 p2 v2 q2 t2 c) [false,false,true]) (h3:Az res (zU b r p v q t b1 r1 p1 v1 q1 t1 b2 r2 p2 v2 q2 t2 c) [false,false,false,true]) (h4:Az res (zU b r p v q t b1 r1 p1 v1 q1 t1 b2 r2 p2 v2 q2 t2 c) [false,false,false,false]):Kl 93 [D.sh 3 (bk1 b r p v q t ++ bk1 b1 r1 p1 v1 q1 t1 ++ bk1 b2 r2 p2 v2 q2 t2),i64 c] res:=fA (amx) (zU b r p v q t b1 r1 p1 v1 q1 t1 b2 r2 p2 v2 q2 t2 c) ⟨h0,fun e0=>⟨h1 e0,fun e1=>⟨h2 e0 e1,fun e2=>⟨h3 e0 e1 e2,h4 e0 e1 e2⟩⟩⟩⟩
def Y0 (b r p v q t b1 r1 p1 v1 q1 t1 n:Int):=jJ .lss (jJ .lss 9223372036854775807 (bK b r p v q t n)) (bK b1 r1 p1 v1 q1 t1 n)
def Zo (b r p v q t b1 r1 p1 v1 q1 t1 b2 r2 p2 v2 q2 t2 n:Int):=jJ .lss (Y0 b r p v q t b1 r1 p1 v1 q1 t1 n) (bK b2 r2 p2 v2 q2 t2 n)
def Ox (b r p v q t b1 r1 p1 v1 q1 t1 b2 r2 p2 v2 q2 t2 n c:Int):Tr D:= .p (.u) (.p (.c 3) (.p (.u) (.p (.c 3) (.s (n<18446744073709551616) (.s (0≤n) (.s (t<18446744073709551616) (.s (0≤t) (.s (iJ b r p v q=0) (.s (n<18446744073709551616) (.s (0≤n) (.s (t1<18446744073709551616) (.s (0≤t1) (.s (iJ b1 r1 p1 v1 q1=0) (.s (n<18446744073709551616) (.s (0≤n) (.s (t2<18446744073709551616) (.s (0≤t2) (.s (iJ b2 r2 p2 v2 q2=0) (.e (ah .lss (Zo b r p v q t b1 r1 p1 v1 q1 t1 b2 r2 p2 v2 q2 t2 n) c) (.lf (D.aS [D.ow 3 6 [i64 b,i64 r,i64 p,i64 (bK b r p v q t n),i64 (jI b r p v q t n),u64 (jF t n),i64 b1,i64 r1,i64 p1,i64 (bK b1 r1 p1 v1 q1 t1 n),i64 (jI b1 r1 p1 v1 q1 t1 n),u64 (jF t1 n),i64 b2,i64 r2,i64 p2,i64 (bK b2 r2 p2 v2 q2 t2 n),i64 (jI b2 r2 p2 v2 q2 t2 n),u64 (jF t2 n)],bo false])) (.p (.u) (.p (.c 3) (.lf (D.aS [D.ow 3 6 [i64 b,i64 r,i64 p,i64 (ai .sub .i64 (bK b r p v q t n) c),i64 (jI b r p v q t n),u64 (jF t n),i64 b1,i64 r1,i64 p1,i64 (ai .sub .i64 (bK b1 r1 p1 v1 q1 t1 n) c),i64 (jI b1 r1 p1 v1 q1 t1 n),u64 (jF t1 n),i64 b2,i64 r2,i64 p2,i64 (ai .sub .i64 (bK b2 r2 p2 v2 q2 t2 n) c),i64 (jI b2 r2 p2 v2 q2 t2 n),u64 (jF t2 n)],bo true])))))))))))))))))))))))
theorem Xz (b r p v q t b1 r1 p1 v1 q1 t1 b2 r2 p2 v2 q2 t2 n c:Int) (res:D) (h0:Az res (Ox b r p v q t b1 r1 p1 v1 q1 t1 b2 r2 p2 v2 q2 t2 n c) [true]) (h1:Az res (Ox b r p v q t b1 r1 p1 v1 q1 t1 b2 r2 p2 v2 q2 t2 n c) [false]):Kl 94 [D.sh 3 (bk1 b r p v q t ++ bk1 b1 r1 p1 v1 q1 t1 ++ bk1 b2 r2 p2 v2 q2 t2),u64 n,i64 c] res:=fA (amx) (Ox b r p v q t b1 r1 p1 v1 q1 t1 b2 r2 p2 v2 q2 t2 n c) ⟨h0,h1⟩
theorem Qs (b r p v q t b1 r1 p1 v1 q1 t1 b2 r2 p2 v2 q2 t2 c:Int) (h:Bq b r p v q t b1 r1 p1 v1 q1 t1 b2 r2 p2 v2 q2 t2) (hc:Vj c):Kl 93 [.sh 3 [i64 b,i64 r,i64 p,i64 v,i64 q,u64 t,i64 b1,i64 r1,i64 p1,i64 v1,i64 q1,u64 t1,i64 b2,i64 r2,i64 p2,i64 v2,i64 q2,u64 t2],i64 c] (i64 0):=by
 obtain⟨⟨h,h',h''⟩,_⟩:=h
 obtain⟨hl,v0,vb,_⟩:=jg h
 obtain⟨b0,b1',_⟩:=iq hl
 obtain⟨hl',v0',vb',_⟩:=jg h'
 obtain⟨b0',b1'',_⟩:=iq hl'
 obtain⟨hl'',v0'',vb'',_⟩:=jg h''
 obtain⟨b0'',b1''',_⟩:=iq hl''
 obtain⟨c0,c1⟩:=hc
 refine VF b r p v q t b1 r1 p1 v1 q1 t1 b2 r2 p2 v2 q2 t2 c _ ?_ ?_ ?_ ?_ ?_<;>dsimp only[Az,Rg,At,Tr.q,Tr.e,zU]
 all_goals
  simp only[aI,aQ,aP,aX]
  intros
 ·exact absurd h ‹_›
 ·exact absurd h' ‹_›
 ·exact absurd h'' ‹_›
 ·omega
 ·exact⟨by simp only[and_true];omega,trivial⟩
theorem aiE (b r p v q t b1 r1 p1 v1 q1 t1 b2 r2 p2 v2 q2 t2 n c:Int) (h:Bq b r p v q t b1 r1 p1 v1 q1 t1 b2 r2 p2 v2 q2 t2) (hc:J5 n c):Kl 94 [.sh 3 [i64 b,i64 r,i64 p,i64 v,i64 q,u64 t,i64 b1,i64 r1,i64 p1,i64 v1,i64 q1,u64 t1,i64 b2,i64 r2,i64 p2,i64 v2,i64 q2,u64 t2],u64 n,i64 c] (.aS [.ow 3 6 [i64 b,i64 r,i64 p,i64 (lv (kT c (bK b r p v q t n) (bK b1 r1 p1 v1 q1 t1 n) (bK b2 r2 p2 v2 q2 t2 n)) (bK b r p v q t n) c),i64 (jI b r p v q t n),u64 (jF t n),i64 b1,i64 r1,i64 p1,i64 (lv (kT c (bK b r p v q t n) (bK b1 r1 p1 v1 q1 t1 n) (bK b2 r2 p2 v2 q2 t2 n)) (bK b1 r1 p1 v1 q1 t1 n) c),i64 (jI b1 r1 p1 v1 q1 t1 n),u64 (jF t1 n),i64 b2,i64 r2,i64 p2,i64 (lv (kT c (bK b r p v q t n) (bK b1 r1 p1 v1 q1 t1 n) (bK b2 r2 p2 v2 q2 t2 n)) (bK b2 r2 p2 v2 q2 t2 n) c),i64 (jI b2 r2 p2 v2 q2 t2 n),u64 (jF t2 n)],bo (kT c (bK b r p v q t n) (bK b1 r1 p1 v1 q1 t1 n) (bK b2 r2 p2 v2 q2 t2 n))]):=by
 obtain⟨⟨h,h',h''⟩,t0,u0,t01,u01,t02,u02⟩:=h
 obtain⟨n0,n1,c0,c1⟩:=hc
 have a0:=J3 h t0 n0
 have a1:=J3 h' t01 n0
 have a2:=J3 h'' t02 n0
 refine Xz b r p v q t b1 r1 p1 v1 q1 t1 b2 r2 p2 v2 q2 t2 n c _ ?_ ?_<;>dsimp only[Az,Rg,At,Tr.q,Tr.e,Ox]
 all_goals
  simp only[Y0,Zo,Tc]
  generalize bK b r p v q t n=x at *
  generalize bK b1 r1 p1 v1 q1 t1 n=y at *
  generalize bK b2 r2 p2 v2 q2 t2 n=z at *
  simp only[aP,aX]
  intros
  refine⟨⟨h'',t02,u02,n0,n1,h',t01,u01,n0,n1,h,t0,u0,n0,n1,trivial⟩,?_⟩
 ·have k:kT c x y z=false:=by rw[Bool.eq_false_iff];intro e;rw[uF] at e;omega
  rw[k];rfl
 ·have k:kT c x y z=true:=uF.2 (by omega)
  have e0:ai .sub .i64 x c=x - c:=by rw[dG,aY (by omega) (by omega)]
  have e1:ai .sub .i64 y c=y - c:=by rw[dG,aY (by omega) (by omega)]
  have e2:ai .sub .i64 z c=z - c:=by rw[dG,aY (by omega) (by omega)]
  rw[k,e0,e1,e2];rfl
def ak8:List D→Option (D×List Prop)
 |[.sh 3 [.v (.int .i64 b), .v (.int .i64 r), .v (.int .i64 p), .v (.int .i64 v), .v (.int .i64 q), .v (.int .u64 t), .v (.int .i64 b1), .v (.int .i64 r1), .v (.int .i64 p1), .v (.int .i64 v1), .v (.int .i64 q1), .v (.int .u64 t1), .v (.int .i64 b2), .v (.int .i64 r2), .v (.int .i64 p2), .v (.int .i64 v2), .v (.int .i64 q2), .v (.int .u64 t2)], .v (.int .i64 c)]=>some (i64 0,[Bq b r p v q t b1 r1 p1 v1 q1 t1 b2 r2 p2 v2 q2 t2,Vj c])
 |_=>none
theorem ag3 (args res l) (h:ak8 args=some (res,l)) (hl:aJ l):Kl 93 args res:=by
 unfold ak8 at h;split at h
 ·obtain⟨rfl,rfl⟩:=dB h;obtain⟨h0,h1,_⟩:=hl
  exact Qs _ _ _ _ _ _ _ _ _ _ _ _ _ _ _ _ _ _ _ h0 h1
 ·cases h
def amB:List D→Option (D×List Prop)
 |[.sh 3 [.v (.int .i64 b), .v (.int .i64 r), .v (.int .i64 p), .v (.int .i64 v), .v (.int .i64 q), .v (.int .u64 t), .v (.int .i64 b1), .v (.int .i64 r1), .v (.int .i64 p1), .v (.int .i64 v1), .v (.int .i64 q1), .v (.int .u64 t1), .v (.int .i64 b2), .v (.int .i64 r2), .v (.int .i64 p2), .v (.int .i64 v2), .v (.int .i64 q2), .v (.int .u64 t2)], .v (.int .u64 n), .v (.int .i64 c)]=>some ((.aS [.ow 3 6 [i64 b,i64 r,i64 p,i64 (lv (kT c (bK b r p v q t n) (bK b1 r1 p1 v1 q1 t1 n) (bK b2 r2 p2 v2 q2 t2 n)) (bK b r p v q t n) c),i64 (jI b r p v q t n),u64 (jF t n),i64 b1,i64 r1,i64 p1,i64 (lv (kT c (bK b r p v q t n) (bK b1 r1 p1 v1 q1 t1 n) (bK b2 r2 p2 v2 q2 t2 n)) (bK b1 r1 p1 v1 q1 t1 n) c),i64 (jI b1 r1 p1 v1 q1 t1 n),u64 (jF t1 n),i64 b2,i64 r2,i64 p2,i64 (lv (kT c (bK b r p v q t n) (bK b1 r1 p1 v1 q1 t1 n) (bK b2 r2 p2 v2 q2 t2 n)) (bK b2 r2 p2 v2 q2 t2 n) c),i64 (jI b2 r2 p2 v2 q2 t2 n),u64 (jF t2 n)],bo (kT c (bK b r p v q t n) (bK b1 r1 p1 v1 q1 t1 n) (bK b2 r2 p2 v2 q2 t2 n))]),[Bq b r p v q t b1 r1 p1 v1 q1 t1 b2 r2 p2 v2 q2 t2,J5 n c])
 |_=>none
theorem aiP (args res l) (h:amB args=some (res,l)) (hl:aJ l):Kl 94 args res:=by
 unfold amB at h;split at h
 ·obtain⟨rfl,rfl⟩:=dB h;obtain⟨h0,h1,_⟩:=hl
  exact aiE _ _ _ _ _ _ _ _ _ _ _ _ _ _ _ _ _ _ _ _ h0 h1
 ·cases h
def X31:aB:=aF 93 (.call ak8) (aF 94 (.call amB) X30)
theorem anE:bT Pg X31:=aj ag3 (aj aiP amx)
def Px (b r p v q t b1 r1 p1 v1 q1 t1 b2 r2 p2 v2 q2 t2 n c:Int):Tr D:= .p (.c 0) (.s (Vj c) (.s (Bq b r p v q t b1 r1 p1 v1 q1 t1 b2 r2 p2 v2 q2 t2) (.s (J5 n c) (.s (Bq b r p v q t b1 r1 p1 v1 q1 t1 b2 r2 p2 v2 q2 t2) (.lf (D.aS [D.ow 3 6 [i64 b,i64 r,i64 p,i64 (lv (kT c (bK b r p v q t n) (bK b1 r1 p1 v1 q1 t1 n) (bK b2 r2 p2 v2 q2 t2 n)) (bK b r p v q t n) c),i64 (jI b r p v q t n),u64 (jF t n),i64 b1,i64 r1,i64 p1,i64 (lv (kT c (bK b r p v q t n) (bK b1 r1 p1 v1 q1 t1 n) (bK b2 r2 p2 v2 q2 t2 n)) (bK b1 r1 p1 v1 q1 t1 n) c),i64 (jI b1 r1 p1 v1 q1 t1 n),u64 (jF t1 n),i64 b2,i64 r2,i64 p2,i64 (lv (kT c (bK b r p v q t n) (bK b1 r1 p1 v1 q1 t1 n) (bK b2 r2 p2 v2 q2 t2 n)) (bK b2 r2 p2 v2 q2 t2 n) c),i64 (jI b2 r2 p2 v2 q2 t2 n),u64 (jF t2 n)],D.v (Value.bool (kT c (bK b r p v q t n) (bK b1 r1 p1 v1 q1 t1 n) (bK b2 r2 p2 v2 q2 t2 n))),i64 0]))))))
theorem Sl (b r p v q t b1 r1 p1 v1 q1 t1 b2 r2 p2 v2 q2 t2 n c:Int) (res:D) (h0:Az res (Px b r p v q t b1 r1 p1 v1 q1 t1 b2 r2 p2 v2 q2 t2 n c) []):Kl 48 [D.sh 3 (bk1 b r p v q t ++ bk1 b1 r1 p1 v1 q1 t1 ++ bk1 b2 r2 p2 v2 q2 t2),u64 n,i64 c] res:=fA (anE) (Px b r p v q t b1 r1 p1 v1 q1 t1 b2 r2 p2 v2 q2 t2 n c) h0
def Qa (b r p v q t b1 r1 p1 v1 q1 t1 b2 r2 p2 v2 q2 t2 c:Int):Tr D:= .p (.c 0) (.p (.u) (.p (.c 3) (.s (Vj c) (.s (Bq b r p v q t b1 r1 p1 v1 q1 t1 b2 r2 p2 v2 q2 t2) (.s (t<18446744073709551616) (.s (0≤t) (.s (iJ b r p v q=0) (.s (t1<18446744073709551616) (.s (0≤t1) (.s (iJ b1 r1 p1 v1 q1=0) (.s (t2<18446744073709551616) (.s (0≤t2) (.s (iJ b2 r2 p2 v2 q2=0) (.lf (D.aS [u64 (jJ .gtr (jJ .gtr (jJ .gtr 0 (vK b r p v q t c)) (vK b1 r1 p1 v1 q1 t1 c)) (vK b2 r2 p2 v2 q2 t2 c)),i64 0])))))))))))))))
theorem Uh (b r p v q t b1 r1 p1 v1 q1 t1 b2 r2 p2 v2 q2 t2 c:Int) (res:D) (h0:Az res (Qa b r p v q t b1 r1 p1 v1 q1 t1 b2 r2 p2 v2 q2 t2 c) []):Kl 49 [D.sh 3 (bk1 b r p v q t ++ bk1 b1 r1 p1 v1 q1 t1 ++ bk1 b2 r2 p2 v2 q2 t2),i64 c] res:=fA (anE) (Qa b r p v q t b1 r1 p1 v1 q1 t1 b2 r2 p2 v2 q2 t2 c) h0
theorem ako (b r p v q t b1 r1 p1 v1 q1 t1 b2 r2 p2 v2 q2 t2 n c:Int) (h:Bq b r p v q t b1 r1 p1 v1 q1 t1 b2 r2 p2 v2 q2 t2) (hc:J5 n c):Kl 42 [.sh 3 [i64 b,i64 r,i64 p,i64 v,i64 q,u64 t,i64 b1,i64 r1,i64 p1,i64 v1,i64 q1,u64 t1,i64 b2,i64 r2,i64 p2,i64 v2,i64 q2,u64 t2],u64 n,i64 c] (.aS [.ow 3 6 [i64 b,i64 r,i64 p,i64 (lv (kT c (bK b r p v q t n) (bK b1 r1 p1 v1 q1 t1 n) (bK b2 r2 p2 v2 q2 t2 n)) (bK b r p v q t n) c),i64 (jI b r p v q t n),u64 (jF t n),i64 b1,i64 r1,i64 p1,i64 (lv (kT c (bK b r p v q t n) (bK b1 r1 p1 v1 q1 t1 n) (bK b2 r2 p2 v2 q2 t2 n)) (bK b1 r1 p1 v1 q1 t1 n) c),i64 (jI b1 r1 p1 v1 q1 t1 n),u64 (jF t1 n),i64 b2,i64 r2,i64 p2,i64 (lv (kT c (bK b r p v q t n) (bK b1 r1 p1 v1 q1 t1 n) (bK b2 r2 p2 v2 q2 t2 n)) (bK b2 r2 p2 v2 q2 t2 n) c),i64 (jI b2 r2 p2 v2 q2 t2 n),u64 (jF t2 n)],bo (kT c (bK b r p v q t n) (bK b1 r1 p1 v1 q1 t1 n) (bK b2 r2 p2 v2 q2 t2 n)),i64 0]):=by
 obtain⟨⟨h,h',h''⟩,t0,u0,t01,u01,t02,u02⟩:=h
 obtain⟨n0,n1,c0,c1⟩:=hc
 exact UM b r p v q t b1 r1 p1 v1 q1 t1 b2 r2 p2 v2 q2 t2 n c h h' h'' t0 u0 t01 u01 t02 u02 n0 n1 c0 c1
theorem al0 (b r p v q t b1 r1 p1 v1 q1 t1 b2 r2 p2 v2 q2 t2 c:Int) (h:Bq b r p v q t b1 r1 p1 v1 q1 t1 b2 r2 p2 v2 q2 t2) (hc:Vj c):Kl 44 [.sh 3 [i64 b,i64 r,i64 p,i64 v,i64 q,u64 t,i64 b1,i64 r1,i64 p1,i64 v1,i64 q1,u64 t1,i64 b2,i64 r2,i64 p2,i64 v2,i64 q2,u64 t2],i64 c] (.aS [u64 (mx3 (vK b r p v q t c) (vK b1 r1 p1 v1 q1 t1 c) (vK b2 r2 p2 v2 q2 t2 c)),i64 0]):=by
 obtain⟨⟨h,h',h''⟩,t0,u0,t01,u01,t02,u02⟩:=h
 obtain⟨c0,c1⟩:=hc
 exact TW b r p v q t b1 r1 p1 v1 q1 t1 b2 r2 p2 v2 q2 t2 c h h' h'' t0 u0 t01 u01 t02 u02 c0 c1
theorem alL (b r p v q t b1 r1 p1 v1 q1 t1 b2 r2 p2 v2 q2 t2 n c:Int) (h:Bq b r p v q t b1 r1 p1 v1 q1 t1 b2 r2 p2 v2 q2 t2) (hc:J5 n c):Kl 48 [.sh 3 [i64 b,i64 r,i64 p,i64 v,i64 q,u64 t,i64 b1,i64 r1,i64 p1,i64 v1,i64 q1,u64 t1,i64 b2,i64 r2,i64 p2,i64 v2,i64 q2,u64 t2],u64 n,i64 c] (.aS [.ow 3 6 [i64 b,i64 r,i64 p,i64 (lv (kT c (bK b r p v q t n) (bK b1 r1 p1 v1 q1 t1 n) (bK b2 r2 p2 v2 q2 t2 n)) (bK b r p v q t n) c),i64 (jI b r p v q t n),u64 (jF t n),i64 b1,i64 r1,i64 p1,i64 (lv (kT c (bK b r p v q t n) (bK b1 r1 p1 v1 q1 t1 n) (bK b2 r2 p2 v2 q2 t2 n)) (bK b1 r1 p1 v1 q1 t1 n) c),i64 (jI b1 r1 p1 v1 q1 t1 n),u64 (jF t1 n),i64 b2,i64 r2,i64 p2,i64 (lv (kT c (bK b r p v q t n) (bK b1 r1 p1 v1 q1 t1 n) (bK b2 r2 p2 v2 q2 t2 n)) (bK b2 r2 p2 v2 q2 t2 n) c),i64 (jI b2 r2 p2 v2 q2 t2 n),u64 (jF t2 n)],bo (kT c (bK b r p v q t n) (bK b1 r1 p1 v1 q1 t1 n) (bK b2 r2 p2 v2 q2 t2 n)),i64 0]):=by
 refine Sl b r p v q t b1 r1 p1 v1 q1 t1 b2 r2 p2 v2 q2 t2 n c _ ?_<;>dsimp only[Az,Rg,At,Tr.q,Tr.e,Px]
 refine⟨?_,rfl⟩
 exact⟨h,hc,h,hc.2.2,trivial⟩
theorem amD (b r p v q t b1 r1 p1 v1 q1 t1 b2 r2 p2 v2 q2 t2 c:Int) (h:Bq b r p v q t b1 r1 p1 v1 q1 t1 b2 r2 p2 v2 q2 t2) (hc:Vj c):Kl 49 [.sh 3 [i64 b,i64 r,i64 p,i64 v,i64 q,u64 t,i64 b1,i64 r1,i64 p1,i64 v1,i64 q1,u64 t1,i64 b2,i64 r2,i64 p2,i64 v2,i64 q2,u64 t2],i64 c] (.aS [u64 (mx3 (vK b r p v q t c) (vK b1 r1 p1 v1 q1 t1 c) (vK b2 r2 p2 v2 q2 t2 c)),i64 0]):=by
 have hh:=h
 obtain⟨⟨h0,h',h''⟩,t0,u0,t01,u01,t02,u02⟩:=h
 refine Uh b r p v q t b1 r1 p1 v1 q1 t1 b2 r2 p2 v2 q2 t2 c _ ?_<;>dsimp only[Az,Rg,At,Tr.q,Tr.e,Qa]
 refine⟨⟨h'',t02,u02,h',t01,u01,h0,t0,u0,hh,hc,trivial⟩,?_⟩
 simp only[Q7];rfl
def abx:List D→Option (D×List Prop)
 |[.sh 3 [.v (.int .i64 b), .v (.int .i64 r), .v (.int .i64 p), .v (.int .i64 v), .v (.int .i64 q), .v (.int .u64 t), .v (.int .i64 b1), .v (.int .i64 r1), .v (.int .i64 p1), .v (.int .i64 v1), .v (.int .i64 q1), .v (.int .u64 t1), .v (.int .i64 b2), .v (.int .i64 r2), .v (.int .i64 p2), .v (.int .i64 v2), .v (.int .i64 q2), .v (.int .u64 t2)], .v (.int .u64 n), .v (.int .i64 c)]=>some ((.aS [.ow 3 6 [i64 b,i64 r,i64 p,i64 (lv (kT c (bK b r p v q t n) (bK b1 r1 p1 v1 q1 t1 n) (bK b2 r2 p2 v2 q2 t2 n)) (bK b r p v q t n) c),i64 (jI b r p v q t n),u64 (jF t n),i64 b1,i64 r1,i64 p1,i64 (lv (kT c (bK b r p v q t n) (bK b1 r1 p1 v1 q1 t1 n) (bK b2 r2 p2 v2 q2 t2 n)) (bK b1 r1 p1 v1 q1 t1 n) c),i64 (jI b1 r1 p1 v1 q1 t1 n),u64 (jF t1 n),i64 b2,i64 r2,i64 p2,i64 (lv (kT c (bK b r p v q t n) (bK b1 r1 p1 v1 q1 t1 n) (bK b2 r2 p2 v2 q2 t2 n)) (bK b2 r2 p2 v2 q2 t2 n) c),i64 (jI b2 r2 p2 v2 q2 t2 n),u64 (jF t2 n)],bo (kT c (bK b r p v q t n) (bK b1 r1 p1 v1 q1 t1 n) (bK b2 r2 p2 v2 q2 t2 n)),i64 0]),[Bq b r p v q t b1 r1 p1 v1 q1 t1 b2 r2 p2 v2 q2 t2,J5 n c])
 |_=>none
theorem aiS (args res l) (h:abx args=some (res,l)) (hl:aJ l):Kl 42 args res:=by
 unfold abx at h;split at h
 ·obtain⟨rfl,rfl⟩:=dB h;obtain⟨h0,h1,_⟩:=hl
  exact ako _ _ _ _ _ _ _ _ _ _ _ _ _ _ _ _ _ _ _ _ h0 h1
 ·cases h
theorem agL (args res l) (h:abx args=some (res,l)) (hl:aJ l):Kl 48 args res:=by
 unfold abx at h;split at h
 ·obtain⟨rfl,rfl⟩:=dB h;obtain⟨h0,h1,_⟩:=hl
  exact alL _ _ _ _ _ _ _ _ _ _ _ _ _ _ _ _ _ _ _ _ h0 h1
 ·cases h
def abo:List D→Option (D×List Prop)
 |[.sh 3 [.v (.int .i64 b), .v (.int .i64 r), .v (.int .i64 p), .v (.int .i64 v), .v (.int .i64 q), .v (.int .u64 t), .v (.int .i64 b1), .v (.int .i64 r1), .v (.int .i64 p1), .v (.int .i64 v1), .v (.int .i64 q1), .v (.int .u64 t1), .v (.int .i64 b2), .v (.int .i64 r2), .v (.int .i64 p2), .v (.int .i64 v2), .v (.int .i64 q2), .v (.int .u64 t2)], .v (.int .i64 c)]=>some ((.aS [u64 (mx3 (vK b r p v q t c) (vK b1 r1 p1 v1 q1 t1 c) (vK b2 r2 p2 v2 q2 t2 c)),i64 0]),[Bq b r p v q t b1 r1 p1 v1 q1 t1 b2 r2 p2 v2 q2 t2,Vj c])
 |_=>none
theorem agv (args res l) (h:abo args=some (res,l)) (hl:aJ l):Kl 44 args res:=by
 unfold abo at h;split at h
 ·obtain⟨rfl,rfl⟩:=dB h;obtain⟨h0,h1,_⟩:=hl
  exact al0 _ _ _ _ _ _ _ _ _ _ _ _ _ _ _ _ _ _ _ h0 h1
 ·cases h
theorem agn (args res l) (h:abo args=some (res,l)) (hl:aJ l):Kl 49 args res:=by
 unfold abo at h;split at h
 ·obtain⟨rfl,rfl⟩:=dB h;obtain⟨h0,h1,_⟩:=hl
  exact amD _ _ _ _ _ _ _ _ _ _ _ _ _ _ _ _ _ _ _ h0 h1
 ·cases h
end MeterS
end
noncomputable section
namespace TableS
open Go Go.Dam Go.Proofs
set_option maxRecDepth 1000000
def YD (k:Bool) (a:Int):Int:=if k=true then(if a<18446744073709551615 then a+1 else a) else a
def YU (k:Bool) (l:Int):Int:=if k=true then l else if l<18446744073709551615 then l+1 else l
def Zq (k:Bool) (c o:Int):Int:=if k=true then(if 18446744073709551615 - c<o then 18446744073709551615 else c+o) else c
def cnS (a l c o:Int):Prop:=(0≤a∧a<18446744073709551616)∧(0≤l∧l<18446744073709551616)∧(0≤c∧c<18446744073709551616)∧eX o
def Pn (c o:Int):=jJ .lss (IntKind.u64.wrap o) (ai .sub .u64 18446744073709551615 c)
def Ja (a m c:Int) (k:Bool) (o:Int):Tr D:= .e (!k) (.e (ah .lss m 18446744073709551615) (.lf (D.agg [u64 a,u64 (ai .add .u64 m 1),u64 c])) (.lf (D.agg [u64 a,u64 m,u64 c]))) (.e (ah .lss a 18446744073709551615) (.lf (D.agg [u64 (ai .add .u64 a 1),u64 m,u64 (ai .add .u64 c (Pn c o))])) (.lf (D.agg [u64 a,u64 m,u64 (ai .add .u64 c (Pn c o))])))
theorem LV (a m c:Int) (k:Bool) (o:Int) (res:D) (h0:Az res (Ja a m c k o) [true,true]) (h1:Az res (Ja a m c k o) [true,false]) (h2:Az res (Ja a m c k o) [false,true]) (h3:Az res (Ja a m c k o) [false,false]):Kl 45 [D.agg [u64 a,u64 m,u64 c],bo k,u32 o] res:=fA (hX0) (Ja a m c k o) ⟨fun e0=>⟨h0 e0,h1 e0⟩,fun e0=>⟨h2 e0,h3 e0⟩⟩
def yE (c o:Int):=ah .lss (ai .sub .u64 18446744073709551615 c) (IntKind.u64.wrap o)
def tJ (a m c:Int) (k:Bool) (o:Int):Tr D:= .e (!k) (.e (ah .lss m 18446744073709551615) (.lf (D.agg [u64 a,u64 (ai .add .u64 m 1),u64 c])) (.lf (D.agg [u64 a,u64 m,u64 c]))) (.e (ah .lss a 18446744073709551615) (.e (yE c o) (.lf (D.agg [u64 (ai .add .u64 a 1),u64 m,u64 18446744073709551615])) (.lf (D.agg [u64 (ai .add .u64 a 1),u64 m,u64 (ai .add .u64 c (IntKind.u64.wrap o))]))) (.e (yE c o) (.lf (D.agg [u64 a,u64 m,u64 18446744073709551615])) (.lf (D.agg [u64 a,u64 m,u64 (ai .add .u64 c (IntKind.u64.wrap o))]))))
theorem IY (a m c:Int) (k:Bool) (o:Int) (res:D) (h0:Az res (tJ a m c k o) [true,true]) (h1:Az res (tJ a m c k o) [true,false]) (h2:Az res (tJ a m c k o) [false,true,true]) (h3:Az res (tJ a m c k o) [false,true,false]) (h4:Az res (tJ a m c k o) [false,false,true]) (h5:Az res (tJ a m c k o) [false,false,false]):Kl 23 [D.agg [u64 a,u64 m,u64 c],bo k,u32 o] res:=fA (hX0) (tJ a m c k o) ⟨fun e0=>⟨h0 e0,h1 e0⟩,fun e0=>⟨fun e1=>⟨h2 e0 e1,h3 e0 e1⟩,fun e1=>⟨h4 e0 e1,h5 e0 e1⟩⟩⟩
theorem aaM (p q:Int):jJ .lss p q=min p q:=MeterS.Tc p q
theorem amC (a l c:Int) (k:Bool) (o:Int) (h:cnS a l c o):Kl 45 [.agg [u64 a,u64 l,u64 c],bo k,u32 o] (.agg [u64 (YD k a),u64 (YU k l),u64 (Zq k c o)]):=by
 obtain⟨⟨a0,a1⟩,⟨l0,l1⟩,⟨c0,c1⟩,o0,o1⟩:=h
 have ea:a<18446744073709551615→ai .add .u64 a 1=a+1:=fun g=>by rw[dH,bC (by omega) (by omega)]
 have el:l<18446744073709551615→ai .add .u64 l 1=l+1:=fun g=>by rw[dH,bC (by omega) (by omega)]
 have ec:ai .add .u64 c (Pn c o)=Zq true c o:=by
  unfold Pn
  rw[aaM,dG,bC (n:=o) (by omega) (by omega),bC (n:=18446744073709551615 - c) (by omega) (by omega),dH,bC (by omega) (by omega)]
  unfold Zq;rw[if_pos rfl];split<;>omega
 cases k with
 |true=>
  refine LV a l c true o _ ?_ ?_ ?_ ?_<;>dsimp only[Az,Rg,At,Tr.q,Tr.e,Ja]
  ·intro g;exact absurd g (by decide)
  ·intro g;exact absurd g (by decide)
  ·intro _ g;rw[aP] at g;refine⟨trivial,?_⟩;rw[ea g,ec];unfold YD YU;rw[if_pos rfl,if_pos g,if_pos rfl]
  ·intro _ g;rw[aX] at g;refine⟨trivial,?_⟩;rw[ec];unfold YD YU;rw[if_pos rfl,if_neg (by omega),if_pos rfl]
 |false=>
  refine LV a l c false o _ ?_ ?_ ?_ ?_<;>dsimp only[Az,Rg,At,Tr.q,Tr.e,Ja]
  ·intro _ g;rw[aP] at g;refine⟨trivial,?_⟩;rw[el g];unfold YD YU Zq;rw[if_neg (by decide),if_neg (by decide),if_pos g,if_neg (by decide)]
  ·intro _ g;rw[aX] at g;refine⟨trivial,?_⟩;unfold YD YU Zq;rw[if_neg (by decide),if_neg (by decide),if_neg (by omega),if_neg (by decide)]
  ·intro g;exact absurd g (by decide)
  ·intro g;exact absurd g (by decide)
theorem ahy (a l c:Int) (k:Bool) (o:Int) (h:cnS a l c o):Kl 23 [.agg [u64 a,u64 l,u64 c],bo k,u32 o] (.agg [u64 (YD k a),u64 (YU k l),u64 (Zq k c o)]):=by
 obtain⟨⟨a0,a1⟩,⟨l0,l1⟩,⟨c0,c1⟩,o0,o1⟩:=h
 have ea:a<18446744073709551615→ai .add .u64 a 1=a+1:=fun g=>by rw[dH,bC (by omega) (by omega)]
 have el:l<18446744073709551615→ai .add .u64 l 1=l+1:=fun g=>by rw[dH,bC (by omega) (by omega)]
 have eo:IntKind.wrap .u64 o=o:=bC (by omega) (by omega)
 have es:ai .sub .u64 18446744073709551615 c=18446744073709551615 - c:=by rw[dG,bC (by omega) (by omega)]
 have ec:¬ 18446744073709551615 - c<o→ai .add .u64 c o=c+o:=fun g=>by rw[dH,bC (by omega) (by omega)]
 cases k with
 |true=>
  refine IY a l c true o _ ?_ ?_ ?_ ?_ ?_ ?_<;>dsimp only[Az,Rg,At,Tr.q,Tr.e,tJ]
  ·intro g;exact absurd g (by decide)
  ·intro g;exact absurd g (by decide)
  ·intro _ g f;rw[aP] at g;unfold yE at f;rw[es,eo,aP] at f;refine⟨trivial,?_⟩;rw[ea g];unfold YD YU Zq;rw[if_pos rfl,if_pos g,if_pos rfl,if_pos rfl,if_pos f]
  ·intro _ g f;rw[aP] at g;unfold yE at f;rw[es,eo,aX] at f;refine⟨trivial,?_⟩;rw[ea g,eo,ec (by omega)];unfold YD YU Zq;rw[if_pos rfl,if_pos g,if_pos rfl,if_pos rfl,if_neg (by omega)]
  ·intro _ g f;rw[aX] at g;unfold yE at f;rw[es,eo,aP] at f;refine⟨trivial,?_⟩;unfold YD YU Zq;rw[if_pos rfl,if_neg (by omega),if_pos rfl,if_pos rfl,if_pos f]
  ·intro _ g f;rw[aX] at g;unfold yE at f;rw[es,eo,aX] at f;refine⟨trivial,?_⟩;rw[eo,ec (by omega)];unfold YD YU Zq;rw[if_pos rfl,if_neg (by omega),if_pos rfl,if_pos rfl,if_neg (by omega)]
 |false=>
  refine IY a l c false o _ ?_ ?_ ?_ ?_ ?_ ?_<;>dsimp only[Az,Rg,At,Tr.q,Tr.e,tJ]
  ·intro _ g;rw[aP] at g;refine⟨trivial,?_⟩;rw[el g];unfold YD YU Zq;rw[if_neg (by decide),if_neg (by decide),if_pos g,if_neg (by decide)]
  ·intro _ g;rw[aX] at g;refine⟨trivial,?_⟩;unfold YD YU Zq;rw[if_neg (by decide),if_neg (by decide),if_neg (by omega),if_neg (by decide)]
  all_goals (intro g;exact absurd g (by decide))
def ZR:List D→Option (D×List Prop)
 |[.agg [.v (.int .u64 a), .v (.int .u64 l), .v (.int .u64 c)], .v (.bool k), .v (.int .u32 o)]=>some (.agg [u64 (YD k a),u64 (YU k l),u64 (Zq k c o)],[cnS a l c o])
 |_=>none
theorem ah4 (args res l) (h:ZR args=some (res,l)) (hl:aJ l):Kl 45 args res:=by
 unfold ZR at h;split at h
 ·obtain⟨rfl,rfl⟩:=dB h;exact amC _ _ _ _ _ hl.1
 ·cases h
theorem ahK (args res l) (h:ZR args=some (res,l)) (hl:aJ l):Kl 23 args res:=by
 unfold ZR at h;split at h
 ·obtain⟨rfl,rfl⟩:=dB h;exact ahy _ _ _ _ _ hl.1
 ·cases h
def MJ:aB:=aF 45 (.call ZR) (aF 23 (.call ZR) (aF 42 (.call MeterS.abx) (aF 48 (.call MeterS.abx) (aF 44 (.call MeterS.abo) (aF 49 (.call MeterS.abo) XP4)))))
theorem sQ:bT Pg MJ:=aj ah4 (aj ahK (aj MeterS.aiS (aj MeterS.agL (aj MeterS.agv (aj MeterS.agn aod)))))
def flt (k g:Int) (v:Bool) (x:Int):Bool:=decide (x≠k) && !(v && decide (x=g))
def keysOf (T:Tb) (L:List Int):List Int:=L.map fun i=>T.ks.getD i.toNat 0
structure Used (T U:Tb) (k g:Int) (v:Bool) (L L1:List Int) (i:Nat):Prop where
 inv:∃ F,Inv U ((i:Int)::L1) F
 ok:fZ U
 n:U.n=T.n
 hi:(i:Int)<U.n
 us:U.us.getD i false=true
 ke:U.ks.getD i 0=k
 nin:(i:Int)∉L1
 same:∀ j∈L1,U.ks.getD j.toNat 0=T.ks.getD j.toNat 0
 keys:keysOf T L1=(keysOf T L).filter (flt k g v)
theorem Ez {T:Tb} {L M:List Int} {k g:Int} {v:Bool} (h1:∀ j∈L,j∈M↔flt k g v (T.ks.getD j.toNat 0)=true) (h2:M=L.filter fun j=>decide (j∈M)):keysOf T M=(keysOf T L).filter (flt k g v):=by
 unfold keysOf
 rw[List.filter_map]
 conv=>lhs;rw[h2]
 congr 1
 apply List.filter_congr
 intro j hj
 have:=h1 j hj
 simp only[Function.comp_apply]
 rw[Bool.eq_iff_iff,decide_eq_true_eq]
 exact this
theorem yU {L:List Int} {p:Int}:wo L p=L.filter fun j=>decide (j∈wo L p):=by
 conv=>lhs;unfold wo
 apply List.filter_congr
 intro j hj
 rw[Bool.eq_iff_iff];simp[uQ,hj]
theorem Et {T:Tb} {L F:List Int} (v:Inv T L F) {j:Int} (hj:j∈L) {i:Nat} (hi:(i:Int)<T.n) (hu:T.us.getD i false=true) (e:T.ks.getD j.toNat 0=T.ks.getD i 0):j=i:=by
 obtain⟨a,b,c⟩:=jP v hj
 have:=JA v (i:=j.toNat) (j:=i) (by omega) hi c hu e
 omega
theorem aay {T:Tb} (ho:fZ T) {L F:List Int} (v:Inv T L F) (hf:T.fr=-1):∀ j∈wo L T.t,T.less.ks.getD j.toNat 0=T.ks.getD j.toNat 0:=fun j hj=>by
 obtain⟨hF,i,A,ei,eA,hi,hu⟩:=oO v hf
 obtain⟨m,n⟩:=uQ.1 hj
 obtain⟨a,b,c⟩:=jP v m
 show(T.ks.set T.t.toNat 0).getD j.toNat 0=_
 rw[getD_set_ne (by omega)]
theorem Ob {T:Tb} (ho:fZ T) {L F:List Int} (v:Inv T L F) {k b r p a:Int} (hk:eX k) (hf:T.fr≠-1) (hn:∀ i:Nat,(i:Int)<T.n→T.us.getD i false=true→T.ks.getD i 0≠k) (hb:iF b r p=0):
  ∃ i:Nat,T.fr=i∧(i:Int)∉L∧(∃ F',Inv (T.plus k b r p a) ((i:Int)::L) F')∧fZ (T.plus k b r p a)∧(i:Int)<T.n∧(T.plus k b r p a).us.getD i false=true∧(T.plus k b r p a).ks.getD i 0=k∧
   (∀ j∈L,(T.plus k b r p a).ks.getD j.toNat 0=T.ks.getD j.toNat 0)∧
   (T.plus k b r p a).x1.getD i 0=b∧(T.plus k b r p a).x2.getD i 0=r∧(T.plus k b r p a).x3.getD i 0=p∧(T.plus k b r p a).x4.getD i 0=b∧(T.plus k b r p a).x5.getD i 0=0∧(T.plus k b r p a).x6.getD i 0=a:=by
 obtain⟨F',eF,f0,f1,f2,w⟩:=Vh (a:=a) ho v hk hf hn hb
 have ok':=adY (a:=a) ho v hk hf hn hb
 obtain⟨k1,k2,k3,k4,k5,k6,k7⟩:=jY ho v
 have ul:=kF v
 refine⟨T.fr.toNat,by omega,by rw[show((T.fr.toNat:Nat):Int)=T.fr by omega];exact f2,⟨F',by rw[show((T.fr.toNat:Nat):Int)=T.fr by omega];exact w⟩,ok',by omega,?_,?_,fun j hj=>?_,?_,?_,?_,?_,?_,?_⟩
 ·show(T.us.set T.fr.toNat true).getD _ _=_;exact fE (by omega)
 ·show(T.ks.set T.fr.toNat k).getD _ _=_;exact aN (by omega)
 ·show(T.ks.set T.fr.toNat k).getD _ _=_
  have:=jP v hj
  have:j≠T.fr:=fun e=>f2 (by rw[←e];exact hj)
  exact getD_set_ne (by omega)
 ·show(T.x1.set T.fr.toNat b).getD _ _=_;exact aN (by omega)
 ·show(T.x2.set T.fr.toNat r).getD _ _=_;exact aN (by omega)
 ·show(T.x3.set T.fr.toNat p).getD _ _=_;exact aN (by omega)
 ·show(T.x4.set T.fr.toNat b).getD _ _=_;exact aN (by omega)
 ·show(T.x5.set T.fr.toNat 0).getD _ _=_;exact aN (by omega)
 ·show(T.x6.set T.fr.toNat a).getD _ _=_;exact aN (by omega)
theorem afq {T:Tb} (ho:fZ T) {L F:List Int} (v:Inv T L F) {k b r p a:Int} (hk:eX k) (hb:iF b r p=0):∃ (L1:List Int) (i:Nat),
  Used T (xW T k b r p a) k (OU T k b r p) (decide (Ld T k b r p)) L L1 i∧
  ((∃ i0:Nat,(i0:Int)<T.n∧T.us.getD i0 false=true∧T.ks.getD i0 0=k)→¬ Ld T k b r p∧T.ks.getD i 0=k∧(i:Int)∈L∧xW T k b r p a=T.touch i)∧
  ((∀ i0:Nat,(i0:Int)<T.n→T.us.getD i0 false=true→T.ks.getD i0 0≠k)→(xW T k b r p a).x1.getD i 0=b∧(xW T k b r p a).x2.getD i 0=r∧(xW T k b r p a).x3.getD i 0=p∧(xW T k b r p a).x4.getD i 0=b∧(xW T k b r p a).x5.getD i 0=0∧(xW T k b r p a).x6.getD i 0=a)∧
  (Ld T k b r p→∃ A,L=A ++ [T.t]∧(L.length:Int)=T.n∧OU T k b r p=T.ks.getD T.t.toNat 0)∧(¬ Ld T k b r p→(∀ i0:Nat,(i0:Int)<T.n→T.us.getD i0 false=true→T.ks.getD i0 0≠k)→(L.length:Int)<T.n):=by
 have ht:=VQ ho v
 have hkm:∀ {i0:Nat},(i0:Int)<T.n→T.us.getD i0 false=true→(i0:Int)∈L:=fun h u=>by have:=v.us _ h;rw[u] at this;simpa using this.symm
 have nd:L.Nodup:=v.od.2.2.2.1
 rcases IU v hk with⟨i,ep,hi,hu,ek⟩ | ⟨ep,hn⟩
 ·have c3:¬ dL T k<0:=by omega
  have hW:¬ Ld T k b r p:=fun n=>c3 n.2.2.1
  have eR:xW T k b r p a=T.touch i:=by unfold xW;rw[if_pos ⟨ht,hb⟩,if_neg c3,ep]
  have hG:OU T k b r p=0:=by unfold OU;rw[if_neg hW]
  have him:=hkm hi hu
  rw[eR,hG,decide_eq_false hW]
  refine⟨wo L i,i,⟨⟨F,Z8 v hi hu⟩,aa7 ho i,rfl,hi,hu,ek,fun m=>(uQ.1 m).2 rfl,fun j _=>rfl,?_⟩,fun _=>⟨hW,ek,him,rfl⟩,fun h=>absurd ek (h i hi hu),fun w=>absurd w hW,fun _ h=>absurd ek (h i hi hu)⟩
  refine Ez (fun j hj=>?_) yU
  rw[uQ]
  unfold flt
  simp only[Bool.false_and,Bool.not_false,Bool.and_true,decide_eq_true_eq]
  constructor
  ·rintro⟨_,n⟩ e
   exact n (Et v hj hi hu (by rw[e,ek]))
  ·intro n
   exact⟨hj,fun e=>n (by subst e;rw[Int.toNat_natCast];exact ek)⟩
 ·by_cases c4:T.fr=-1
  ·have hW:Ld T k b r p:=⟨ht,hb,by omega,c4⟩
   have eR:xW T k b r p a=T.less.plus k b r p a:=by unfold xW;rw[if_pos ⟨ht,hb⟩,if_pos (by omega),if_pos c4]
   have hG:OU T k b r p=T.ks.getD T.t.toNat 0:=by unfold OU;rw[if_pos hW]
   obtain⟨v1,ho1⟩:=Jm ho v c4
   have hn1:=Ot ho v c4 hn
   obtain⟨hF,i,A,ei,eA,hi,hu⟩:=oO v c4
   have hlen:=Js v
   rw[hF] at hlen
   obtain⟨q,e1,e2,e3,e4,e5,e6,e7,e8,x1,x2,x3,x4,x5,x6⟩:=Ob (a:=a) (r:=r) (p:=p) ho1 v1 hk (by show((T.t.toNat:Nat):Int)≠-1;omega) hn1 hb
   rw[eR,hG,decide_eq_true hW]
   refine⟨wo L T.t,q,⟨e3,e4,rfl,e5,e6,e7,e2,fun j hj=>(e8 j hj).trans (aay ho v c4 j hj),?_⟩,fun⟨i0,a1,a2,a3⟩=>absurd a3 (hn i0 a1 a2),fun _=>⟨x1,x2,x3,x4,x5,x6⟩,fun _=>⟨A,eA,by simp only[List.length_nil] at hlen;omega,rfl⟩,fun n=>absurd hW n⟩
   refine Ez (fun j hj=>?_) yU
   rw[uQ]
   unfold flt
   obtain⟨a1,a2,a3⟩:=jP v hj
   have:T.ks.getD j.toNat 0≠k:=hn _ (by omega) a3
   simp only[this,ne_eq,not_false_eq_true,decide_true,Bool.true_and,Bool.not_eq_true',decide_eq_false_iff_not]
   constructor
   ·rintro⟨_,n⟩ e
    apply n
    rw[ei]
    exact Et v hj hi hu (by rw[e,ei,Int.toNat_natCast])
   ·intro n
    exact⟨hj,fun e=>n (by rw[e])⟩
  ·have hW:¬ Ld T k b r p:=fun n=>c4 n.2.2.2
   have eR:xW T k b r p a=T.plus k b r p a:=by unfold xW;rw[if_pos ⟨ht,hb⟩,if_pos (by omega),if_neg c4]
   have hG:OU T k b r p=0:=by unfold OU;rw[if_neg hW]
   obtain⟨q,e1,e2,e3,e4,e5,e6,e7,e8,x1,x2,x3,x4,x5,x6⟩:=Ob (a:=a) (r:=r) (p:=p) ho v hk c4 hn hb
   have hlen:=Js v
   obtain⟨F',eF,_⟩:=F6 v.ar c4
   rw[eR,hG,decide_eq_false hW]
   refine⟨L,q,⟨e3,e4,rfl,e5,e6,e7,e2,e8,?_⟩,fun⟨i0,a1,a2,a3⟩=>absurd a3 (hn i0 a1 a2),fun _=>⟨x1,x2,x3,x4,x5,x6⟩,fun w=>absurd w hW,fun _ _=>by rw[eF] at hlen;simp only[List.length_cons] at hlen;omega⟩
   symm
   rw[List.filter_eq_self]
   intro x hx
   unfold keysOf at hx
   obtain⟨j,hj,e⟩:=List.mem_map.1 hx
   obtain⟨a1,a2,a3⟩:=jP v hj
   have:T.ks.getD j.toNat 0≠k:=hn _ (by omega) a3
   rw[e] at this
   unfold flt;simp[this]
theorem aeX {T U:Tb} {k g:Int} {v:Bool} {L L1:List Int} {i:Nat} (u:Used T U k g v L L1 i) (hk:eX k):gtE U k=0∧dL U k=i∧∀ xs,qW U k xs=xs.getD i 0:=by
 obtain⟨F,w⟩:=u.inv
 have ht:=VQ u.ok w
 obtain⟨e1,e2⟩:=Bd w hk u.hi u.us u.ke
 refine⟨by unfold gtE;rw[if_pos ht,if_pos e1],by unfold dL;rw[if_pos e1,e2],fun xs=>?_⟩
 unfold qW;rw[if_pos ⟨ht,e1⟩,e2,Int.toNat_natCast]
end TableS
end
noncomputable section
namespace TableS
open Go Go.Dam Go.Proofs Go.RowKit Go.ChangeShapes Go.WideShapes
set_option maxRecDepth 1000000
def okW (T:Tb):Prop:=(∀ i,i<T.kx.length→eX (T.kx.getD i 0))∧(∀ i,i<T.ks.length→eX (T.ks.getD i 0))∧(∀ i,i<T.x1.length→gy (T.x4.getD i 0))∧
 T.x2.length=T.x1.length∧T.x3.length=T.x1.length∧T.x4.length=T.x1.length∧T.x5.length=T.x1.length∧T.x6.length=T.x1.length∧T.px.length=T.kx.length∧T.ux.length=T.kx.length∧∀ i,i<T.x1.length→0≤T.x6.getD i 0∧T.x6.getD i 0<18446744073709551616
theorem aeQ {T:Tb} (h:okW T) (g:T.great=false):fZ T:=by
 obtain⟨h1,h2,h3,e2,e3,e4,e5,e6,e7,e8,_⟩:=h
 simp only[Tb.great,gr2,Bool.or_eq_false_iff,decide_eq_false_iff_not] at g
 obtain⟨g1,g2,g3,⟨g4,g5⟩,g6,g7⟩:=g
 exact⟨⟨by omega,h1⟩,h2,h3,by omega,by omega,by omega,⟨by omega,e2,e3,e4,e5,e6⟩,⟨by omega,e7,e8⟩,by omega,by omega⟩
theorem Gp:¬ Live:=fun h=>by cases h
def adt:List IntKind:=[.i64, .i64, .i64, .i64, .i64, .u64]
def Xk:List FK:=[.one (.int .i64), .row [.int .u32], .row (adt.map CK.int), .row [.int .i64], .row [.bool], .one (.int .i64), .row [.int .u32, .int .i64, .bool], .row [.int .i64], .row [.int .i64], .one (.int .i64), .one (.int .i64)]
theorem dD {w:World} {k:FK} {ks:List FK} {vs:List Value} (h:jl w (k::ks) vs):∃ v vs',vs=v::vs'∧k.ok w v∧jl w ks vs':=by
 cases vs with
 |nil=>cases h
 |cons v vs'=>exact⟨v,vs',rfl,h.1,h.2⟩
theorem wf_i64 {n:Int} (h:(Lit.int .i64 n).wf=true):gy n:=by
 unfold gy
 simp[Lit.wf,IntKind.has,IntKind.min,IntKind.max,IntKind.signed,IntKind.bits] at h;omega
def OC (n:Int):Prop:=0≤n∧n<18446744073709551616
theorem wf_u64 {n:Int} (h:(Lit.int .u64 n).wf=true):OC n:=by
 unfold OC
 simp[Lit.wf,IntKind.has,IntKind.min,IntKind.max,IntKind.signed,IntKind.bits] at h;omega
theorem ack {w:World} {A:Nat→Prop} (ks:List IntKind) (f:Nat→Int):aG w A (.agg (mkL ks f)) (.agg (Ap ks f).toArray):=acv ks f
theorem FY {w:World} {k:IntKind} {v:Value} (h:(FK.one (.int k)).ok w v):∃ n,v= .int k n:=by
 obtain⟨n,e,_⟩:=h;exact⟨n,e⟩
theorem xK {w:World} {k:IntKind} {v:Value} (h:(FK.row [.int k]).ok w v):∃ xs,aG w (fun k=>k<w.heap.size) (.rc [.ints k xs]) v∧∀ i,i<xs.length→(Lit.int k (xs.getD i 0)).wf=true:=by
 obtain⟨cols,n,hc,hr⟩:=h
 obtain⟨xs,cs,rfl,e,hw,hc⟩:=jq hc
 have:=tH hc;subst this;subst e
 exact⟨xs,hr.rep Gp rfl (fun c hc m f q=>by simp at hc;subst hc;cases q),hw⟩
theorem abe {w:World} {v:Value} (h:(FK.row [.bool]).ok w v):∃ xs,aG w (fun k=>k<w.heap.size) (.rc [.bools xs]) v:=by
 obtain⟨cols,n,hc,hr⟩:=h
 obtain⟨xs,cs,rfl,e,hc⟩:=E5 hc
 have:=tH hc;subst this;subst e
 exact⟨xs,hr.rep Gp rfl (fun c hc m f q=>by simp at hc;subst hc;cases q)⟩
theorem aaJ {w:World} {v:Value} (h:(FK.row [.int .u32, .int .i64, .bool]).ok w v):∃ kx px ux,aG w (fun k=>k<w.heap.size) (cc kx px ux) v∧px.length=kx.length∧ux.length=kx.length∧∀ i,i<kx.length→eX (kx.getD i 0):=by
 obtain⟨cols,n,hc,hr⟩:=h
 obtain⟨kx,cs,rfl,e,hw,hc⟩:=jq hc
 obtain⟨px,cs,rfl,e2,_,hc⟩:=jq hc
 obtain⟨ux,cs,rfl,e3,hc⟩:=E5 hc
 have:=tH hc;subst this;subst e
 exact⟨kx,px,ux,hr.rep Gp rfl (fun c hc m f q=>by simp at hc;rcases hc with rfl | rfl | rfl<;>cases q),e2,e3,fun i hi=>wf_u32 (hw i hi)⟩
theorem SC {w:World} {v:Value} (h:(FK.row (adt.map CK.int)).ok w v):∃ x1 x2 x3 x4 x5 x6,aG w (fun k=>k<w.heap.size) (kr x1 x2 x3 x4 x5 x6) v∧
  (x2.length=x1.length∧x3.length=x1.length∧x4.length=x1.length∧x5.length=x1.length∧x6.length=x1.length)∧(∀ i,i<x1.length→gy (x4.getD i 0))∧∀ i,i<x1.length→OC (x6.getD i 0):=by
 obtain⟨cols,n,hc,hr⟩:=h
 obtain⟨x1,cs,rfl,e,_,hc⟩:=jq hc
 obtain⟨x2,cs,rfl,e2,_,hc⟩:=jq hc
 obtain⟨x3,cs,rfl,e3,_,hc⟩:=jq hc
 obtain⟨x4,cs,rfl,e4,hw,hc⟩:=jq hc
 obtain⟨x5,cs,rfl,e5,_,hc⟩:=jq hc
 obtain⟨x6,cs,rfl,e6,h6,hc⟩:=jq hc
 have:=tH hc;subst this;subst e
 exact⟨x1,x2,x3,x4,x5,x6,hr.rep Gp rfl (fun c hc m f q=>by simp at hc;rcases hc with rfl | rfl | rfl | rfl | rfl | rfl<;>cases q),⟨e2,e3,e4,e5,e6⟩,fun i hi=>wf_i64 (hw i hi),fun i hi=>wf_u64 (h6 i hi)⟩
theorem UG {w:World} {vs:List Value} (h:jl w Xk vs):∃ T:Tb,okW T∧aG w (fun k=>k<w.heap.size) T.d (.agg vs.toArray):=by
 obtain⟨v0,vs,rfl,h0,h⟩:=dD h
 obtain⟨v1,vs,rfl,h1,h⟩:=dD h
 obtain⟨v2,vs,rfl,h2,h⟩:=dD h
 obtain⟨v3,vs,rfl,h3,h⟩:=dD h
 obtain⟨v4,vs,rfl,h4,h⟩:=dD h
 obtain⟨v5,vs,rfl,h5,h⟩:=dD h
 obtain⟨v6,vs,rfl,h6,h⟩:=dD h
 obtain⟨v7,vs,rfl,h7,h⟩:=dD h
 obtain⟨v8,vs,rfl,h8,h⟩:=dD h
 obtain⟨v9,vs,rfl,h9,h⟩:=dD h
 obtain⟨v10,vs,rfl,h10,h⟩:=dD h
 have:vs=[]:=by cases vs with | nil=>rfl | cons=>cases h
 subst this
 obtain⟨n,rfl⟩:=FY h0
 obtain⟨ks,r1,k1⟩:=xK h1
 obtain⟨x1,x2,x3,x4,x5,x6,r2,⟨e2,e3,e4,e5,e6⟩,k2,k3⟩:=SC h2
 obtain⟨nx,r3,_⟩:=xK h3
 obtain⟨us,r4⟩:=abe h4
 obtain⟨fr,rfl⟩:=FY h5
 obtain⟨kx,px,ux,r6,e7,e8,k6⟩:=aaJ h6
 obtain⟨ps,r7,_⟩:=xK h7
 obtain⟨no,r8,_⟩:=xK h8
 obtain⟨hh,rfl⟩:=FY h9
 obtain⟨t,rfl⟩:=FY h10
 refine⟨⟨n,ks,x1,x2,x3,x4,x5,x6,nx,us,fr,kx,px,ux,ps,no,hh,t⟩,⟨k6,fun i hi=>wf_u32 (k1 i hi),k2,e2,e3,e4,e5,e6,e7,e8,k3⟩,?_⟩
 simp only[aG]
 refine⟨_,rfl,?_⟩
 simp only[dU]
 exact⟨_,_,rfl,rfl,_,_,rfl,r1,_,_,rfl,r2,_,_,rfl,r3,_,_,rfl,r4,_,_,rfl,rfl,_,_,rfl,r6,_,_,rfl,r7,_,_,rfl,r8,_,_,rfl,rfl,_,_,rfl,rfl,rfl⟩
def ah5 (Q:Pt):Prop:=eX Q.te∧gy Q.ov∧OC Q.oa∧okW Q.U∧okW Q.E∧(∀ i,i<Q.rv.length→eX (Q.rv.getD i 0))∧OC Q.ta∧OC Q.tl∧OC Q.tc
def P6:List FK:= .one (.int .u32)::(List.replicate 14 (.one (.int .i64)) ++ .one (.int .u64)::(Xk ++ (Xk ++ [.row [.int .u32], .one (.int .u64), .one (.int .u64), .one (.int .u64)])))
def WZ:List IntKind:=[.i64, .i64, .i64, .i64, .i64, .i64, .i64, .i64, .i64]
def inE (n:Int):Prop:=0≤n∧n<65536
theorem wf_u16 {n:Int} (h:(Lit.int .u16 n).wf=true):inE n:=by
 unfold inE
 simp[Lit.wf,IntKind.has,IntKind.min,IntKind.max,IntKind.signed,IntKind.bits] at h;omega
theorem xY {w:World}:∀ {ks ks':List FK} {vs:List Value},jl w (ks ++ ks') vs→∃ a b,vs=a ++ b∧jl w ks a∧jl w ks' b
 |[],_,vs,h=>⟨[],vs,rfl,trivial,h⟩
 |k::ks,ks',vs,h=>by
  obtain⟨v,vs,rfl,h0,h⟩:=dD h
  obtain⟨a,b,rfl,h1,h2⟩:=xY h
  exact⟨v::a,b,rfl,⟨h0,h1⟩,h2⟩
theorem JC {w:World}:∀ {n:Nat} {vs:List Value},jl w (List.replicate n (.one (.int .i64))) vs→∃ ns:List Int,ns.length=n∧vs=ns.map (Value.int .i64)∧∀ x∈ns,gy x
 |0,vs,h=>by cases vs with | nil=>exact⟨[],rfl,rfl,by simp⟩ | cons=>cases h
 |n+1,vs,h=>by
  rw[List.replicate_succ] at h
  obtain⟨v,vs,rfl,h0,h'⟩:=dD h
  obtain⟨m,e,hw⟩:=h0
  subst e
  obtain⟨ns,rfl,rfl,hn⟩:=JC h'
  exact⟨m::ns,rfl,rfl,fun x hx=>by rcases List.mem_cons.1 hx with e | hx;· { rw[e];exact wf_i64 hw };· exact hn x hx⟩
theorem F8 {w:World} {v:Value} (h:(FK.one (.int .u64)).ok w v):∃ n,v= .int .u64 n∧OC n:=by
 obtain⟨n,e,hw⟩:=h;exact⟨n,e,wf_u64 hw⟩
theorem BN {w:World} {A:Nat→Prop}:∀ {ds es:List D} {a b:List Value},dU w A ds a→dU w A es b→dU w A (ds ++ es) (a ++ b)
 |[],es,a,b,h,k=>by simp only[dU] at h;subst h;exact k
 |d::ds,es,a,b,h,k=>by
  simp only[dU] at h
  obtain⟨x,xs,rfl,h1,h2⟩:=h
  simp only[List.cons_append,dU]
  exact⟨x,xs ++ b,rfl,h1,BN h2 k⟩
theorem rY {w:World} {A:Nat→Prop}:∀ ns:List Int,dU w A (ns.map fun n=>i64 n) (ns.map (Value.int .i64))
 |[]=>by simp[dU]
 |n::ns=>by simp only[List.map_cons,dU];exact⟨_,_,rfl,by simp[aG],rY ns⟩
theorem agF {w:World} {vs:List Value} (h:jl w P6 vs):∃ Q:Pt,ah5 Q∧aG w (fun k=>k<w.heap.size) Q.d (.agg vs.toArray):=by
 unfold P6 at h
 obtain⟨v0,vs,rfl,h0,g1⟩:=dD (k:= .one (.int .u32)) h
 clear h
 obtain⟨te,rfl,wte⟩:=h0
 obtain⟨a,vs,rfl,h1,g2⟩:=xY (ks:=List.replicate 14 (.one (.int .i64))) g1
 clear g1
 obtain⟨ns,hl,rfl,hns⟩:=JC h1
 obtain⟨v2,vs,rfl,h2,g3⟩:=dD g2
 clear g2
 obtain⟨oa,rfl,woa⟩:=F8 h2
 obtain⟨us,vs,rfl,hu,g4⟩:=xY g3
 clear g3
 obtain⟨es,vs,rfl,he,g5⟩:=xY g4
 clear g4
 obtain⟨U,wU,rU⟩:=UG hu
 obtain⟨E,wE,rE⟩:=UG he
 obtain⟨v3,vs,rfl,h3,g6⟩:=dD g5
 clear g5
 obtain⟨v4,vs,rfl,h4,g7⟩:=dD g6
 clear g6
 obtain⟨v5,vs,rfl,h5,g8⟩:=dD g7
 clear g7
 obtain⟨v6,vs,rfl,h6,h⟩:=dD g8
 clear g8
 have:vs=[]:=by cases vs with | nil=>rfl | cons=>cases h
 subst this
 obtain⟨rv,r3,k3⟩:=xK h3
 obtain⟨ta,rfl,wta⟩:=F8 h4
 obtain⟨tl,rfl,wtl⟩:=F8 h5
 obtain⟨tc,rfl,wtc⟩:=F8 h6
 match ns,hl with
 |[n0,n1,n2,n3,n4,n5,n6,n7,n8,n9,n10,n11,n12,n13],_=>
  refine⟨⟨te,n0,n1,n2,n3,n4,n5,n6,n7,n8,n9,n10,n11,n12,n13,oa,U,E,rv,ta,tl,tc⟩,⟨wf_u32 wte,hns _ (by simp),woa,wU,wE,fun i hi=>wf_u32 (k3 i hi),wta,wtl,wtc⟩,?_⟩
  have rU':dU w (fun k=>k<w.heap.size) U.fs us:=by
   unfold Tb.d at rU
   simp only[aG] at rU
   obtain⟨x,e,r⟩:=rU
   have:x=us:=by simpa using e.symm
   rw[←this];exact r
  have rE':dU w (fun k=>k<w.heap.size) E.fs es:=by
   unfold Tb.d at rE
   simp only[aG] at rE
   obtain⟨x,e,r⟩:=rE
   have:x=es:=by simpa using e.symm
   rw[←this];exact r
  have key:dU w (fun k=>k<w.heap.size) (u32 te::([n0,n1,n2,n3,n4,n5,n6,n7,n8,n9,n10,n11,n12,n13].map (fun n=>i64 n) ++ u64 oa::(U.fs ++ (E.fs ++ [ru rv,u64 ta,u64 tl,u64 tc]))))
    (.int .u32 te::([n0,n1,n2,n3,n4,n5,n6,n7,n8,n9,n10,n11,n12,n13].map (Value.int .i64) ++ .int .u64 oa::(us ++ (es ++ [v3, .int .u64 ta, .int .u64 tl, .int .u64 tc])))):=by
   simp only[dU]
   refine⟨_,_,rfl,by simp[aG],BN (rY _) ?_⟩
   simp only[dU]
   refine⟨_,_,rfl,by simp[aG],BN rU' (BN rE' ?_)⟩
   simp only[dU]
   exact⟨_,_,rfl,r3,_,_,rfl,by simp[aG],_,_,rfl,by simp[aG],_,_,rfl,by simp[aG],rfl⟩
  unfold Pt.d
  simp only[aG]
  exact⟨_,rfl,key⟩
end TableS
end
noncomputable section
namespace TableS
open Go Go.Dam Go.Proofs
set_option maxRecDepth 1000000
structure alu (T U:Tb) (k:Int):Prop where
 ok:fZ U
 tc:jL U=0
 bk:qA (qW U k U.x1) (qW U k U.x2) (qW U k U.x3) (qW U k U.x4) (qW U k U.x5)=0
 at0:OC (qW U k U.x6)
 fd:tK U.kx U.px U.ux k=0
theorem adf {T:Tb} (hw:okW T) (ho:fZ T) (h:jL T=0) {k b r p a:Int} (hk:eX k) (hl:iF b r p=0) (ha:OC a):alu T (xW T k b r p a) k:=by
 obtain⟨L,F,v⟩:=tY ho h
 obtain⟨L1,i,u,s1,s2,_⟩:=afq (a:=a) ho v hk hl
 obtain⟨F1,w⟩:=u.inv
 obtain⟨g1,g2,g3⟩:=aeX u hk
 have ht:=VQ u.ok w
 have hb:=w.bk i u.hi u.us
 obtain⟨e1,_⟩:=Bd w hk u.hi u.us u.ke
 refine⟨u.ok,ht,by simp only[g3];exact hb,?_,e1⟩
 rw[g3]
 rcases aeS v k with hx | hx
 ·obtain⟨_,_,iL,eU⟩:=s1 hx
  have hi:=jP v iL
  have ll:=jY ho v
  rw[eU]
  obtain⟨_,_,_,_,_,_,_,_,_,_,h6⟩:=hw
  exact h6 i (by omega)
 ·obtain⟨_,_,_,_,_,e6⟩:=s2 hx
  rw[e6];exact ha
theorem alO {b r p v q:Int} (h:qA b r p v q=0):1≤b∧b≤1000000000∧0≤r∧r≤1000000000∧1≤p∧p≤1000000000∧0≤v∧v≤b∧0≤q∧q<p∧¬ (v=b∧0<q):=by
 unfold qA at h;split at h
 ·assumption
 ·cases h
theorem adP {b r p v q:Int} (h:qA b r p v q=0):gy v:=by
 have:=alO h;unfold gy;omega
abbrev u16 (n:Int):D:= .v (.int .u16 n)
abbrev u8 (n:Int):D:= .v (.int .u8 n)
structure Bk where
 b:Int
 r:Int
 p:Int
 v:Int
 q:Int
 t:Int
def Tb.bk (T:Tb) (k:Int):Bk:=⟨qW T k T.x1,qW T k T.x2,qW T k T.x3,qW T k T.x4,qW T k T.x5,qW T k T.x6⟩
def Tb.se (T:Tb) (k:Int) (B:Bk):Tb:=seT T k B.b B.r B.p B.v B.q B.t
def Pt.own (Q:Pt):Bk:=⟨Q.ob,Q.orr,Q.op,Q.ov,Q.oq,Q.oa⟩
def Bk.lv (B:Bk) (a:Int):Int:=MeterS.bK B.b B.r B.p B.v B.q B.t a
def Bk.tk (B:Bk) (k:Bool) (c a:Int):Bk:=⟨B.b,B.r,B.p,MeterS.lv k (B.lv a) c,MeterS.jI B.b B.r B.p B.v B.q B.t a,MeterS.jF B.t a⟩
def Bk.wa (B:Bk) (c:Int):Int:=MeterS.vK B.b B.r B.p B.v B.q B.t c
def v3 (A B C:Bk):Prop:=MeterS.Bq A.b A.r A.p A.v A.q A.t B.b B.r B.p B.v B.q B.t C.b C.r C.p C.v C.q C.t
def aU (Q:Pt) (u a:Int):Tb:=xW Q.U u Q.b1 Q.r1 Q.p1 a
def aE (Q:Pt) (e a:Int):Tb:=xW Q.E (IntKind.wrap .u32 e) Q.b2 Q.r2 Q.p2 a
def bU (Q:Pt) (u a:Int):Bk:=(aU Q u a).bk u
def bE (Q:Pt) (e a:Int):Bk:=(aE Q e a).bk (IntKind.wrap .u32 e)
def aK (Q:Pt) (u e co a:Int):Bool:=MeterS.kT (IntKind.wrap .i64 co) (Q.own.lv a) ((bU Q u a).lv a) ((bE Q e a).lv a)
def n0 (Q:Pt) (u e co a:Int):Bk:=Q.own.tk (aK Q u e co a) (IntKind.wrap .i64 co) a
def n1 (Q:Pt) (u e co a:Int):Bk:=(bU Q u a).tk (aK Q u e co a) (IntKind.wrap .i64 co) a
def n2 (Q:Pt) (u e co a:Int):Bk:=(bE Q e a).tk (aK Q u e co a) (IntKind.wrap .i64 co) a
def sU (Q:Pt) (u e co a:Int):Tb:=(aU Q u a).se u (n1 Q u e co a)
def sE (Q:Pt) (u e co a:Int):Tb:=(aE Q e a).se (IntKind.wrap .u32 e) (n2 Q u e co a)
def Jr (Q:Pt) (u e co a:Int):Pt:=⟨Q.te,Q.b0,Q.r0,Q.p0,Q.b1,Q.r1,Q.p1,Q.b2,Q.r2,Q.p2,Q.ob,Q.orr,Q.op,(n0 Q u e co a).v,(n0 Q u e co a).q,(n0 Q u e co a).t,
 sU Q u e co a,sE Q u e co a,Q.rv,YD (aK Q u e co a) Q.ta,YU (aK Q u e co a) Q.tl,Zq (aK Q u e co a) Q.tc co⟩
def wt3 (Q:Pt) (u e co a:Int):Int:=MeterS.mx3 ((n0 Q u e co a).wa (IntKind.wrap .i64 co)) ((n1 Q u e co a).wa (IntKind.wrap .i64 co)) ((n2 Q u e co a).wa (IntKind.wrap .i64 co))
def rpl (cd te x y z w:Int):D:= .agg [u8 cd,u32 te,u32 x,u32 y,u32 z,u64 w]
def abr (Q:Pt) (cd w u e co a:Int):D:=rpl cd Q.te (IntKind.wrap .u32 (n0 Q u e co a).v) (IntKind.wrap .u32 (n1 Q u e co a).v) (IntKind.wrap .u32 (n2 Q u e co a).v) w
def rowT (Z:Tb):List Prop:=[af [.ints .u32 Z.ks]=af [.ints .u32 Z.ks],af [.ints .i64 Z.x1, .ints .i64 Z.x2, .ints .i64 Z.x3, .ints .i64 Z.x4, .ints .i64 Z.x5, .ints .u64 Z.x6]=af [.ints .i64 Z.x1, .ints .i64 Z.x2, .ints .i64 Z.x3, .ints .i64 Z.x4, .ints .i64 Z.x5, .ints .u64 Z.x6],af [.ints .i64 Z.nx]=af [.ints .i64 Z.nx],af [.bools Z.us]=af [.bools Z.us],af [.ints .u32 Z.kx, .ints .i64 Z.px, .bools Z.ux]=af [.ints .u32 Z.kx, .ints .i64 Z.px, .bools Z.ux],af [.ints .i64 Z.ps]=af [.ints .i64 Z.ps],af [.ints .i64 Z.no]=af [.ints .i64 Z.no]]
theorem fJ (Z:Tb):aJ (rowT Z):=⟨rfl,rfl,rfl,rfl,rfl,rfl,rfl,trivial⟩
def CP (Z:Pt):List Prop:=rowT Z.U ++ (rowT Z.E ++ [af [.ints .u32 Z.rv]=af [.ints .u32 Z.rv]])
theorem lD (Z:Pt):aJ (CP Z):=by unfold CP;rw[aZ,aZ];exact⟨fJ _,fJ _,rfl,trivial⟩
theorem ahH (Q:Pt) (u e co a:Int):iY Pg MJ 100000 [.d true] 12 [Q.d,u32 u,u16 e,u32 co,u64 a]=some (.aS [Vm,rpl 0 0 0 0 0 0,i64 (sD Q)],[ah .neq (sD Q) 0=true,Nc Q]):=by kernel_rfl
theorem ai5 (Q:Pt) (u e co a:Int):iY Pg MJ 100000 [.d false, .d true] 12 [Q.d,u32 u,u16 e,u32 co,u64 a]=some (.aS [Vm,rpl 0 0 0 0 0 0,i64 36],[rvB Q u=true,ah .neq (sD Q) 0=false,Nc Q]):=by kernel_rfl
theorem ai4 (Q:Pt) (u e co a:Int):iY Pg MJ 100000 [.d false, .d false, .u, .c 3, .d true] 12 [Q.d,u32 u,u16 e,u32 co,u64 a]=some (.aS [(Jr Q u e co a).o,abr Q 3 (wt3 Q u e co a) u e co a,i64 0],CP (Jr Q u e co a) ++ ([cnS Q.ta Q.tl Q.tc co,v3 (n0 Q u e co a) (n1 Q u e co a) (n2 Q u e co a),MeterS.Vj (IntKind.wrap .i64 co),(!MeterS.kT (IntKind.wrap .i64 co) (Q.own.lv a) ((bU Q u a).lv a) ((bE Q e a).lv a))=true] ++ (rowT (aE Q e a) ++ ([fZ (aE Q e a)∧eX (IntKind.wrap .u32 e)∧gy (n2 Q u e co a).v] ++ (rowT (aU Q u a) ++ ([fZ (aU Q u a)∧eX u∧gy (n1 Q u e co a).v,v3 Q.own (bU Q u a) (bE Q e a),MeterS.J5 a (IntKind.wrap .i64 co)] ++ (rowT (aE Q e a) ++ ([fZ (aE Q e a)∧eX (IntKind.wrap .u32 e)] ++ (rowT (aU Q u a) ++ ([fZ (aU Q u a)∧eX u,fZ Q.E∧eX (IntKind.wrap .u32 e),fZ Q.U∧eX u,Q.rv.length≤200,rvB Q u=false,ah .neq (sD Q) 0=false,Nc Q])))))))))):=by kernel_rfl
theorem ahD (Q:Pt) (u e co a:Int):iY Pg MJ 100000 [.d false, .d false, .u, .c 3, .d false] 12 [Q.d,u32 u,u16 e,u32 co,u64 a]=some (.aS [(Jr Q u e co a).o,abr Q 2 0 u e co a,i64 0],CP (Jr Q u e co a) ++ ([cnS Q.ta Q.tl Q.tc co,(!MeterS.kT (IntKind.wrap .i64 co) (Q.own.lv a) ((bU Q u a).lv a) ((bE Q e a).lv a))=false] ++ (rowT (aE Q e a) ++ ([fZ (aE Q e a)∧eX (IntKind.wrap .u32 e)∧gy (n2 Q u e co a).v] ++ (rowT (aU Q u a) ++ ([fZ (aU Q u a)∧eX u∧gy (n1 Q u e co a).v,v3 Q.own (bU Q u a) (bE Q e a),MeterS.J5 a (IntKind.wrap .i64 co)] ++ (rowT (aE Q e a) ++ ([fZ (aE Q e a)∧eX (IntKind.wrap .u32 e)] ++ (rowT (aU Q u a) ++ ([fZ (aU Q u a)∧eX u,fZ Q.E∧eX (IntKind.wrap .u32 e),fZ Q.U∧eX u,Q.rv.length≤200,rvB Q u=false,ah .neq (sD Q) 0=false,Nc Q])))))))))):=by kernel_rfl
theorem ah6 (Q:Pt) (u e co a:Int):iY Pg MJ 100000 [.d true] 13 [Q.d,u32 u,u16 e,u32 co,u64 a]=some (.aS [Vm,rpl 0 0 0 0 0 0,i64 (sD Q)],[Nc Q,ah .neq (sD Q) 0=true,Nc Q]):=by kernel_rfl
theorem ahi (Q:Pt) (u e co a:Int):iY Pg MJ 100000 [.d false, .d true] 13 [Q.d,u32 u,u16 e,u32 co,u64 a]=some (.aS [Vm,rpl 0 0 0 0 0 0,i64 36],[isB Q.rv u=true,Q.rv.length≤200,ah .neq (sD Q) 0=false,Nc Q]):=by kernel_rfl
theorem aik (Q:Pt) (u e co a:Int):iY Pg MJ 100000 [.d false, .d false, .d true] 13 [Q.d,u32 u,u16 e,u32 co,u64 a]=some (.aS [(Jr Q u e co a).o,abr Q 3 (wt3 Q u e co a) u e co a,i64 0],CP (Jr Q u e co a) ++ ([cnS Q.ta Q.tl Q.tc co] ++ (rowT (aE Q e a) ++ ([fZ (aE Q e a)∧eX (IntKind.wrap .u32 e)∧gy (n2 Q u e co a).v] ++ (rowT (aU Q u a) ++ ([fZ (aU Q u a)∧eX u∧gy (n1 Q u e co a).v,v3 (n0 Q u e co a) (n1 Q u e co a) (n2 Q u e co a),MeterS.Vj (IntKind.wrap .i64 co),(!MeterS.kT (IntKind.wrap .i64 co) (Q.own.lv a) ((bU Q u a).lv a) ((bE Q e a).lv a))=true,v3 Q.own (bU Q u a) (bE Q e a),MeterS.J5 a (IntKind.wrap .i64 co)] ++ (rowT (aE Q e a) ++ ([fZ (aE Q e a)∧eX (IntKind.wrap .u32 e)] ++ (rowT (aU Q u a) ++ ([fZ (aU Q u a)∧eX u,fZ Q.E∧eX (IntKind.wrap .u32 e),fZ Q.U∧eX u,YK Q,isB Q.rv u=false,Q.rv.length≤200,ah .neq (sD Q) 0=false,Nc Q])))))))))):=by kernel_rfl
theorem agT (Q:Pt) (u e co a:Int):iY Pg MJ 100000 [.d false, .d false, .d false] 13 [Q.d,u32 u,u16 e,u32 co,u64 a]=some (.aS [(Jr Q u e co a).o,abr Q 2 0 u e co a,i64 0],CP (Jr Q u e co a) ++ ([cnS Q.ta Q.tl Q.tc co] ++ (rowT (aE Q e a) ++ ([fZ (aE Q e a)∧eX (IntKind.wrap .u32 e)∧gy (n2 Q u e co a).v] ++ (rowT (aU Q u a) ++ ([fZ (aU Q u a)∧eX u∧gy (n1 Q u e co a).v,(!MeterS.kT (IntKind.wrap .i64 co) (Q.own.lv a) ((bU Q u a).lv a) ((bE Q e a).lv a))=false,v3 Q.own (bU Q u a) (bE Q e a),MeterS.J5 a (IntKind.wrap .i64 co)] ++ (rowT (aE Q e a) ++ ([fZ (aE Q e a)∧eX (IntKind.wrap .u32 e)] ++ (rowT (aU Q u a) ++ ([fZ (aU Q u a)∧eX u,fZ Q.E∧eX (IntKind.wrap .u32 e),fZ Q.U∧eX u,YK Q,isB Q.rv u=false,Q.rv.length≤200,ah .neq (sD Q) 0=false,Nc Q])))))))))):=by kernel_rfl
def asS (Q:Pt) (u e co a:Int):Prop:=Nc Q∧eX u∧inE e∧eX co∧OC a∧OC Q.oa∧okW Q.U∧okW Q.E∧OC Q.ta∧OC Q.tl∧OC Q.tc
def Bk.ok (B:Bk):Prop:=MeterS.iJ B.b B.r B.p B.v B.q=0∧OC B.t
theorem NM {A B C:Bk} (hA:A.ok) (hB:B.ok) (hC:C.ok):v3 A B C:=⟨⟨hA.1,hB.1,hC.1⟩,hA.2.1,hA.2.2,hB.2.1,hB.2.2,hC.2.1,hC.2.2⟩
theorem qw {B:Bk} (h:B.ok):gy B.v:=by have:=h.1;rw[MeterS.MV] at this;exact adP this
theorem Jq {B:Bk} (h:B.ok) {k:Bool} {c a:Int} (c0:0≤c) (ha:OC a) (hk:k=true→c≤B.lv a):(B.tk k c a).ok:=by
 obtain⟨h1,h2⟩:=h
 exact⟨MeterS.aoA (MeterS.ajR h1 h2.1 ha.1) c0 hk,MeterS.akA h2.1 h2.2 ha.1 ha.2⟩
theorem rC (e:Int):eX (IntKind.wrap .u32 e):=by rw[wrap_u32];unfold eX;omega
structure apj (Q:Pt) (u e co a:Int):Prop where
 bu:alu Q.U (aU Q u a) u
 be:alu Q.E (aE Q e a) (IntKind.wrap .u32 e)
 o0:Q.own.ok
 o1:(bU Q u a).ok
 o2:(bE Q e a).ok
 k0:(n0 Q u e co a).ok
 k1:(n1 Q u e co a).ok
 k2:(n2 Q u e co a).ok
 nc:MeterS.J5 a (IntKind.wrap .i64 co)
theorem CW {Q:Pt} {u e co a:Int} (h:asS Q u e co a) (c:sD Q=0):apj Q u e co a:=by
 obtain⟨ho,hu,he,hco,ha,hoa,wU,wE,_⟩:=h
 obtain⟨_,l3,bo,tU,tE,_⟩:=am3 c
 obtain⟨_,l1,l2⟩:=ahc l3
 have bu:=adf wU ho.2.1 tU hu l1 ha
 have be:=adf wE ho.2.2.1 tE (rC e) l2 ha
 have ec:IntKind.wrap .i64 co=co:=by have:=hco.1;have:=hco.2;exact aY (by omega) (by omega)
 have c0:0≤IntKind.wrap .i64 co:=by rw[ec];exact hco.1
 have c1:IntKind.wrap .i64 co<9223372036854775808:=by rw[ec];have:=hco.2;omega
 have o0:Q.own.ok:=⟨by rw[MeterS.MV];exact bo,hoa⟩
 have o1:(bU Q u a).ok:=⟨by rw[MeterS.MV];exact bu.bk,bu.at0⟩
 have o2:(bE Q e a).ok:=⟨by rw[MeterS.MV];exact be.bk,be.at0⟩
 have hk:aK Q u e co a=true→IntKind.wrap .i64 co≤Q.own.lv a∧IntKind.wrap .i64 co≤(bU Q u a).lv a∧IntKind.wrap .i64 co≤(bE Q e a).lv a:=fun g=>MeterS.uF.1 g
 exact⟨bu,be,o0,o1,o2,Jq o0 c0 ha fun g=>(hk g).1,Jq o1 c0 ha fun g=>(hk g).2.1,Jq o2 c0 ha fun g=>(hk g).2.2,ha.1,ha.2,c0,c1⟩
open Classical in
def gd (Q:Pt) (u x:Int):Int:=if sD Q=0∧u∉Q.rv then x else 0
open Classical in
def vG (Q:Pt) (u e co a:Int):Pt:=if sD Q=0∧u∉Q.rv then Jr Q u e co a else q0
def vM (Q:Pt) (u:Int):Int:=if sD Q=0 then(if u∈Q.rv then 36 else 0) else sD Q
def Vg (Q:Pt) (u e co a:Int):Int:=if aK Q u e co a=true then 2 else 3
def SS (Q:Pt) (u e co a:Int):Int:=if aK Q u e co a=true then 0 else wt3 Q u e co a
def O5 (Q:Pt) (u e co a:Int):D:=rpl (gd Q u (Vg Q u e co a)) (gd Q u Q.te) (gd Q u (IntKind.wrap .u32 (n0 Q u e co a).v)) (gd Q u (IntKind.wrap .u32 (n1 Q u e co a).v)) (gd Q u (IntKind.wrap .u32 (n2 Q u e co a).v)) (gd Q u (SS Q u e co a))
theorem SH {Q:Pt} {u e co a:Int} (c:sD Q=0) (m:u∉Q.rv):O5 Q u e co a=abr Q (Vg Q u e co a) (SS Q u e co a) u e co a:=by
 unfold O5 abr gd;simp only[if_pos (show sD Q=0∧u∉Q.rv from⟨c,m⟩)]
theorem aiA {Q:Pt} {u e co a:Int} (h:¬ (sD Q=0∧u∉Q.rv)):O5 Q u e co a=rpl 0 0 0 0 0 0:=by
 unfold O5 gd;simp only[if_neg h]
theorem Qk {Q:Pt} {u e co a x:Int} {f:FuncId} {args:List D} (h:¬ (sD Q=0∧u∉Q.rv)) (k:Kl f args (.aS [Vm,rpl 0 0 0 0 0 0,i64 x])):Kl f args (.aS [(vG Q u e co a).o,O5 Q u e co a,i64 x]):=by
 have e1:vG Q u e co a=q0:=by unfold vG;rw[if_neg h]
 rw[e1,aiA h]
 exact bf (bH.aS (.cons akb (.refl _))) k
theorem aiv (Q:Pt) (u e co a:Int) (h:asS Q u e co a):Kl 12 [Q.d,u32 u,u16 e,u32 co,u64 a] (.aS [(vG Q u e co a).o,O5 Q u e co a,i64 (vM Q u)]):=by
 have ho:=h.1
 by_cases c:sD Q=0
 ·have f:=CW h c
  have fn:ah .neq (sD Q) 0=false:=by rw[aQ];exact c
  by_cases m:u∈Q.rv
  ·have ee:vM Q u=36:=by unfold vM;rw[if_pos c,if_pos m]
   rw[ee]
   refine Qk (fun n=>n.2 m) (aT sQ (ai5 Q u e co a) ⟨?_,fn,ho,trivial⟩ rfl)
   unfold rvB;rw[decide_eq_true c,decide_eq_true m];rfl
  ·have ee:vM Q u=0:=by unfold vM;rw[if_pos c,if_neg m]
   have ev:vG Q u e co a=Jr Q u e co a:=by unfold vG;rw[if_pos ⟨c,m⟩]
   rw[ee,ev,SH c m]
   have r0:rvB Q u=false:=by unfold rvB;rw[decide_eq_false m,Bool.and_false]
   have hu:=h.2.1
   have sn:cnS Q.ta Q.tl Q.tc co:=⟨h.2.2.2.2.2.2.2.2.1,h.2.2.2.2.2.2.2.2.2.1,h.2.2.2.2.2.2.2.2.2.2,h.2.2.2.1⟩
   cases k:aK Q u e co a with
   |false=>
    unfold Vg SS;rw[k,if_neg (by decide),if_neg (by decide)]
    refine aT sQ (ai4 Q u e co a) ?_ rfl
    repeat rw[aZ]
    exact⟨lD _,⟨sn,NM f.k0 f.k1 f.k2,f.nc.2.2,by rw[show MeterS.kT _ _ _ _=false from k];rfl,trivial⟩,fJ _,⟨⟨f.be.ok,rC e,qw f.k2⟩,trivial⟩,fJ _,⟨⟨f.bu.ok,hu,qw f.k1⟩,NM f.o0 f.o1 f.o2,f.nc,trivial⟩,fJ _,⟨⟨f.be.ok,rC e⟩,trivial⟩,fJ _,⟨f.bu.ok,hu⟩,⟨ho.2.2.1,rC e⟩,⟨ho.2.1,hu⟩,ho.2.2.2,r0,fn,ho,trivial⟩
   |true=>
    unfold Vg SS;rw[k,if_pos rfl,if_pos rfl]
    refine aT sQ (ahD Q u e co a) ?_ rfl
    repeat rw[aZ]
    exact⟨lD _,⟨sn,by rw[show MeterS.kT _ _ _ _=true from k];rfl,trivial⟩,fJ _,⟨⟨f.be.ok,rC e,qw f.k2⟩,trivial⟩,fJ _,⟨⟨f.bu.ok,hu,qw f.k1⟩,NM f.o0 f.o1 f.o2,f.nc,trivial⟩,fJ _,⟨⟨f.be.ok,rC e⟩,trivial⟩,fJ _,⟨f.bu.ok,hu⟩,⟨ho.2.2.1,rC e⟩,⟨ho.2.1,hu⟩,ho.2.2.2,r0,fn,ho,trivial⟩
 ·have ee:vM Q u=sD Q:=by unfold vM;rw[if_neg c]
  rw[ee]
  exact Qk (fun n=>c n.1) (aT sQ (ahH Q u e co a) ⟨by rw[aI];exact c,ho,trivial⟩ rfl)
theorem Qs (Q:Pt) (u e co a:Int) (h:asS Q u e co a):Kl 13 [Q.d,u32 u,u16 e,u32 co,u64 a] (.aS [(vG Q u e co a).o,O5 Q u e co a,i64 (vM Q u)]):=by
 have ho:=h.1
 by_cases c:sD Q=0
 ·have f:=CW h c
  have fn:ah .neq (sD Q) 0=false:=by rw[aQ];exact c
  by_cases m:u∈Q.rv
  ·have ee:vM Q u=36:=by unfold vM;rw[if_pos c,if_pos m]
   rw[ee]
   exact Qk (fun n=>n.2 m) (aT sQ (ahi Q u e co a) ⟨by rw[adQ,decide_eq_true m],ho.2.2.2,fn,ho,trivial⟩ rfl)
  ·have ee:vM Q u=0:=by unfold vM;rw[if_pos c,if_neg m]
   have ev:vG Q u e co a=Jr Q u e co a:=by unfold vG;rw[if_pos ⟨c,m⟩]
   rw[ee,ev,SH c m]
   have r0:isB Q.rv u=false:=by rw[adQ,decide_eq_false m]
   have hu:=h.2.1
   have tq:=YJ ho
   have sn:cnS Q.ta Q.tl Q.tc co:=⟨h.2.2.2.2.2.2.2.2.1,h.2.2.2.2.2.2.2.2.2.1,h.2.2.2.2.2.2.2.2.2.2,h.2.2.2.1⟩
   cases k:aK Q u e co a with
   |false=>
    unfold Vg SS;rw[k,if_neg (by decide),if_neg (by decide)]
    refine aT sQ (aik Q u e co a) ?_ rfl
    repeat rw[aZ]
    exact⟨lD _,⟨sn,trivial⟩,fJ _,⟨⟨f.be.ok,rC e,qw f.k2⟩,trivial⟩,fJ _,⟨⟨f.bu.ok,hu,qw f.k1⟩,NM f.k0 f.k1 f.k2,f.nc.2.2,by rw[show MeterS.kT _ _ _ _=false from k];rfl,NM f.o0 f.o1 f.o2,f.nc,trivial⟩,fJ _,⟨⟨f.be.ok,rC e⟩,trivial⟩,fJ _,⟨f.bu.ok,hu⟩,⟨ho.2.2.1,rC e⟩,⟨ho.2.1,hu⟩,tq,r0,ho.2.2.2,fn,ho,trivial⟩
   |true=>
    unfold Vg SS;rw[k,if_pos rfl,if_pos rfl]
    refine aT sQ (agT Q u e co a) ?_ rfl
    repeat rw[aZ]
    exact⟨lD _,⟨sn,trivial⟩,fJ _,⟨⟨f.be.ok,rC e,qw f.k2⟩,trivial⟩,fJ _,⟨⟨f.bu.ok,hu,qw f.k1⟩,by rw[show MeterS.kT _ _ _ _=true from k];rfl,NM f.o0 f.o1 f.o2,f.nc,trivial⟩,fJ _,⟨⟨f.be.ok,rC e⟩,trivial⟩,fJ _,⟨f.bu.ok,hu⟩,⟨ho.2.2.1,rC e⟩,⟨ho.2.1,hu⟩,tq,r0,ho.2.2.2,fn,ho,trivial⟩
 ·have ee:vM Q u=sD Q:=by unfold vM;rw[if_neg c]
  rw[ee]
  exact Qk (fun n=>c n.1) (aT sQ (ah6 Q u e co a) ⟨ho,by rw[aI];exact c,ho,trivial⟩ rfl)
def newP (te b0 r0 p0 b1 r1 p1 b2 r2 p2 us en a:Int):Pt:=⟨te,b0,r0,p0,b1,r1,p1,b2,r2,p2,sN b0 r0 p0 b0,sN b0 r0 p0 r0,sN b0 r0 p0 p0,sN b0 r0 p0 b0,0,sN b0 r0 p0 a,nwV us,nwV en,[],0,0,0⟩
def newG (te us en:Int):Prop:=te<16∧yS us=0∧yS en=0
instance (te us en:Int):Decidable (newG te us en):=by unfold newG;exact inferInstance
def nR (te b0 r0 p0 b1 r1 p1 b2 r2 p2 us en a:Int):Pt:=if newG te us en∧nV b0 r0 p0 b1 r1 p1 b2 r2 p2=true then newP te b0 r0 p0 b1 r1 p1 b2 r2 p2 us en a else q0
def newE (te b0 r0 p0 b1 r1 p1 b2 r2 p2 us en:Int):Int:=if newG te us en then(if nV b0 r0 p0 b1 r1 p1 b2 r2 p2=true then 0 else 8) else 2
theorem ahe (te b0 r0 p0 b1 r1 p1 b2 r2 p2 us en a:Int):iY Pg MJ 100000 [.d true, .c 3] 10 [u32 te,oJ b0 r0 p0 b1 r1 p1 b2 r2 p2,i64 us,i64 en,u64 a]=some (.aS [Vm,i64 2],[ah .geq te 16=true]):=by kernel_rfl
theorem ahq (te b0 r0 p0 b1 r1 p1 b2 r2 p2 us en a:Int):iY Pg MJ 100000 [.d false, .c 0, .d true, .c 1] 10 [u32 te,oJ b0 r0 p0 b1 r1 p1 b2 r2 p2,i64 us,i64 en,u64 a]=some (.aS [Vm,i64 2],[ah .neq (yS us) 0=true,ah .geq te 16=false]):=by kernel_rfl
theorem ahk (te b0 r0 p0 b1 r1 p1 b2 r2 p2 us en a:Int):iY Pg MJ 100000 [.d false, .c 0, .d false, .c 0, .d true] 10 [u32 te,oJ b0 r0 p0 b1 r1 p1 b2 r2 p2,i64 us,i64 en,u64 a]=some (.aS [Vm,i64 2],[ah .neq (yS en) 0=true,ah .neq (yS us) 0=false,ah .geq te 16=false]):=by kernel_rfl
theorem ag8 (te b0 r0 p0 b1 r1 p1 b2 r2 p2 us en a:Int):iY Pg MJ 100000 [.d false, .c 0, .d false, .c 0, .d false, .d true] 10 [u32 te,oJ b0 r0 p0 b1 r1 p1 b2 r2 p2,i64 us,i64 en,u64 a]=some (.aS [Vm,i64 8],[(!nV b0 r0 p0 b1 r1 p1 b2 r2 p2)=true,ah .neq (yS en) 0=false,ah .neq (yS us) 0=false,ah .geq te 16=false]):=by kernel_rfl
theorem agV (te b0 r0 p0 b1 r1 p1 b2 r2 p2 us en a:Int):iY Pg MJ 100000 [.d false, .c 0, .d false, .c 0, .d false, .d false] 10 [u32 te,oJ b0 r0 p0 b1 r1 p1 b2 r2 p2,i64 us,i64 en,u64 a]=some (.aS [(newP te b0 r0 p0 b1 r1 p1 b2 r2 p2 us en a).oN,i64 0],rowT (nwV us) ++ (rowT (nwV en) ++ [(!nV b0 r0 p0 b1 r1 p1 b2 r2 p2)=false,ah .neq (yS en) 0=false,ah .neq (yS us) 0=false,ah .geq te 16=false])):=by kernel_rfl
theorem agD (te b0 r0 p0 b1 r1 p1 b2 r2 p2 us en a:Int):Kl 10 [u32 te,oJ b0 r0 p0 b1 r1 p1 b2 r2 p2,i64 us,i64 en,u64 a] (.aS [(nR te b0 r0 p0 b1 r1 p1 b2 r2 p2 us en a).o,i64 (newE te b0 r0 p0 b1 r1 p1 b2 r2 p2 us en)]):=by
 have nil:∀ x:Int,nR te b0 r0 p0 b1 r1 p1 b2 r2 p2 us en a=q0→newE te b0 r0 p0 b1 r1 p1 b2 r2 p2 us en=x→Kl 10 [u32 te,oJ b0 r0 p0 b1 r1 p1 b2 r2 p2,i64 us,i64 en,u64 a] (.aS [Vm,i64 x])→Kl 10 [u32 te,oJ b0 r0 p0 b1 r1 p1 b2 r2 p2,i64 us,i64 en,u64 a] (.aS [(nR te b0 r0 p0 b1 r1 p1 b2 r2 p2 us en a).o,i64 (newE te b0 r0 p0 b1 r1 p1 b2 r2 p2 us en)]):=fun x h1 h2 k=>by
  rw[h1,h2];exact bf (bH.aS (.cons akb (.refl _))) k
 have bad:¬ newG te us en→nR te b0 r0 p0 b1 r1 p1 b2 r2 p2 us en a=q0∧newE te b0 r0 p0 b1 r1 p1 b2 r2 p2 us en=2:=fun h=>by unfold nR newE;rw[if_neg (fun n=>h n.1),if_neg h];exact⟨rfl,rfl⟩
 by_cases g:te<16
 ·have g':ah .geq te 16=false:=by rw[dS];exact g
  by_cases u:yS us=0
  ·have u':ah .neq (yS us) 0=false:=by rw[aQ];exact u
   by_cases e:yS en=0
   ·have e':ah .neq (yS en) 0=false:=by rw[aQ];exact e
    cases l:nV b0 r0 p0 b1 r1 p1 b2 r2 p2 with
    |false=>exact nil 8 (by unfold nR;rw[if_neg (fun n=>by rw[n.2] at l;cases l)]) (by unfold newE;rw[if_pos ⟨g,u,e⟩,l];rfl) (aT sQ (ag8 te b0 r0 p0 b1 r1 p1 b2 r2 p2 us en a) ⟨by rw[l];rfl,e',u',g',trivial⟩ rfl)
    |true=>
     have h1:nR te b0 r0 p0 b1 r1 p1 b2 r2 p2 us en a=newP te b0 r0 p0 b1 r1 p1 b2 r2 p2 us en a:=by unfold nR;rw[if_pos ⟨⟨g,u,e⟩,l⟩]
     have h2:newE te b0 r0 p0 b1 r1 p1 b2 r2 p2 us en=0:=by unfold newE;rw[if_pos ⟨g,u,e⟩,if_pos l]
     rw[h1,h2]
     refine bf (bH.aS (.cons (ajv (newP te b0 r0 p0 b1 r1 p1 b2 r2 p2 us en a)) (.refl _))) (aT sQ (agV te b0 r0 p0 b1 r1 p1 b2 r2 p2 us en a) ?_ rfl)
     rw[aZ,aZ]
     exact⟨fJ _,fJ _,by rw[l];rfl,e',u',g',trivial⟩
   ·have e':ah .neq (yS en) 0=true:=by rw[aI];exact e
    obtain⟨h1,h2⟩:=bad fun n=>e n.2.2
    exact nil 2 h1 h2 (aT sQ (ahk te b0 r0 p0 b1 r1 p1 b2 r2 p2 us en a) ⟨e',u',g',trivial⟩ rfl)
  ·have u':ah .neq (yS us) 0=true:=by rw[aI];exact u
   obtain⟨h1,h2⟩:=bad fun n=>u n.2.1
   exact nil 2 h1 h2 (aT sQ (ahq te b0 r0 p0 b1 r1 p1 b2 r2 p2 us en a) ⟨u',g',trivial⟩ rfl)
 ·have g':ah .geq te 16=true:=by rw[dV];omega
  obtain⟨h1,h2⟩:=bad fun n=>g n.1
  exact nil 2 h1 h2 (aT sQ (ahe te b0 r0 p0 b1 r1 p1 b2 r2 p2 us en a) ⟨g',trivial⟩ rfl)
theorem agu (te b0 r0 p0 b1 r1 p1 b2 r2 p2 us en a:Int):iY Pg MJ 100000 [.d true, .c 3] 11 [u32 te,oJ b0 r0 p0 b1 r1 p1 b2 r2 p2,i64 us,i64 en,u64 a]=some (.aS [Vm,i64 2],[ah .geq te 16=true]):=by kernel_rfl
theorem ain (te b0 r0 p0 b1 r1 p1 b2 r2 p2 us en a:Int):iY Pg MJ 100000 [.d false, .c 0, .d true, .c 1] 11 [u32 te,oJ b0 r0 p0 b1 r1 p1 b2 r2 p2,i64 us,i64 en,u64 a]=some (.aS [Vm,i64 2],[ah .neq (yS us) 0=true,ah .geq te 16=false]):=by kernel_rfl
theorem ahE (te b0 r0 p0 b1 r1 p1 b2 r2 p2 us en a:Int):iY Pg MJ 100000 [.d false, .c 0, .d false, .c 0, .d true] 11 [u32 te,oJ b0 r0 p0 b1 r1 p1 b2 r2 p2,i64 us,i64 en,u64 a]=some (.aS [Vm,i64 2],[ah .neq (yS en) 0=true,ah .neq (yS us) 0=false,ah .geq te 16=false]):=by kernel_rfl
theorem ahF (te b0 r0 p0 b1 r1 p1 b2 r2 p2 us en a:Int):iY Pg MJ 100000 [.d false, .c 0, .d false, .c 0, .d false, .d true] 11 [u32 te,oJ b0 r0 p0 b1 r1 p1 b2 r2 p2,i64 us,i64 en,u64 a]=some (.aS [Vm,i64 8],[(!nV b0 r0 p0 b1 r1 p1 b2 r2 p2)=true,ah .neq (yS en) 0=false,ah .neq (yS us) 0=false,ah .geq te 16=false]):=by kernel_rfl
theorem ai6 (te b0 r0 p0 b1 r1 p1 b2 r2 p2 us en a:Int):iY Pg MJ 100000 [.d false, .c 0, .d false, .c 0, .d false, .d false] 11 [u32 te,oJ b0 r0 p0 b1 r1 p1 b2 r2 p2,i64 us,i64 en,u64 a]=some (.aS [(newP te b0 r0 p0 b1 r1 p1 b2 r2 p2 us en a).oN,i64 0],rowT (nwV us) ++ (rowT (nwV en) ++ [(!nV b0 r0 p0 b1 r1 p1 b2 r2 p2)=false,ah .neq (yS en) 0=false,ah .neq (yS us) 0=false,ah .geq te 16=false])):=by kernel_rfl
theorem agt (te b0 r0 p0 b1 r1 p1 b2 r2 p2 us en a:Int):Kl 11 [u32 te,oJ b0 r0 p0 b1 r1 p1 b2 r2 p2,i64 us,i64 en,u64 a] (.aS [(nR te b0 r0 p0 b1 r1 p1 b2 r2 p2 us en a).o,i64 (newE te b0 r0 p0 b1 r1 p1 b2 r2 p2 us en)]):=by
 have nil:∀ x:Int,nR te b0 r0 p0 b1 r1 p1 b2 r2 p2 us en a=q0→newE te b0 r0 p0 b1 r1 p1 b2 r2 p2 us en=x→Kl 11 [u32 te,oJ b0 r0 p0 b1 r1 p1 b2 r2 p2,i64 us,i64 en,u64 a] (.aS [Vm,i64 x])→Kl 11 [u32 te,oJ b0 r0 p0 b1 r1 p1 b2 r2 p2,i64 us,i64 en,u64 a] (.aS [(nR te b0 r0 p0 b1 r1 p1 b2 r2 p2 us en a).o,i64 (newE te b0 r0 p0 b1 r1 p1 b2 r2 p2 us en)]):=fun x h1 h2 k=>by
  rw[h1,h2];exact bf (bH.aS (.cons akb (.refl _))) k
 have bad:¬ newG te us en→nR te b0 r0 p0 b1 r1 p1 b2 r2 p2 us en a=q0∧newE te b0 r0 p0 b1 r1 p1 b2 r2 p2 us en=2:=fun h=>by unfold nR newE;rw[if_neg (fun n=>h n.1),if_neg h];exact⟨rfl,rfl⟩
 by_cases g:te<16
 ·have g':ah .geq te 16=false:=by rw[dS];exact g
  by_cases u:yS us=0
  ·have u':ah .neq (yS us) 0=false:=by rw[aQ];exact u
   by_cases e:yS en=0
   ·have e':ah .neq (yS en) 0=false:=by rw[aQ];exact e
    cases l:nV b0 r0 p0 b1 r1 p1 b2 r2 p2 with
    |false=>exact nil 8 (by unfold nR;rw[if_neg (fun n=>by rw[n.2] at l;cases l)]) (by unfold newE;rw[if_pos ⟨g,u,e⟩,l];rfl) (aT sQ (ahF te b0 r0 p0 b1 r1 p1 b2 r2 p2 us en a) ⟨by rw[l];rfl,e',u',g',trivial⟩ rfl)
    |true=>
     have h1:nR te b0 r0 p0 b1 r1 p1 b2 r2 p2 us en a=newP te b0 r0 p0 b1 r1 p1 b2 r2 p2 us en a:=by unfold nR;rw[if_pos ⟨⟨g,u,e⟩,l⟩]
     have h2:newE te b0 r0 p0 b1 r1 p1 b2 r2 p2 us en=0:=by unfold newE;rw[if_pos ⟨g,u,e⟩,if_pos l]
     rw[h1,h2]
     refine bf (bH.aS (.cons (ajv (newP te b0 r0 p0 b1 r1 p1 b2 r2 p2 us en a)) (.refl _))) (aT sQ (ai6 te b0 r0 p0 b1 r1 p1 b2 r2 p2 us en a) ?_ rfl)
     rw[aZ,aZ]
     exact⟨fJ _,fJ _,by rw[l];rfl,e',u',g',trivial⟩
   ·have e':ah .neq (yS en) 0=true:=by rw[aI];exact e
    obtain⟨h1,h2⟩:=bad fun n=>e n.2.2
    exact nil 2 h1 h2 (aT sQ (ahE te b0 r0 p0 b1 r1 p1 b2 r2 p2 us en a) ⟨e',u',g',trivial⟩ rfl)
  ·have u':ah .neq (yS us) 0=true:=by rw[aI];exact u
   obtain⟨h1,h2⟩:=bad fun n=>u n.2.1
   exact nil 2 h1 h2 (aT sQ (ain te b0 r0 p0 b1 r1 p1 b2 r2 p2 us en a) ⟨u',g',trivial⟩ rfl)
 ·have g':ah .geq te 16=true:=by rw[dV];omega
  obtain⟨h1,h2⟩:=bad fun n=>g n.1
  exact nil 2 h1 h2 (aT sQ (agu te b0 r0 p0 b1 r1 p1 b2 r2 p2 us en a) ⟨g',trivial⟩ rfl)
def abd:List D→Option (D×List Prop)
 |[.v (.int .u32 te), .agg [.v (.int .i64 b0), .v (.int .i64 r0), .v (.int .i64 p0), .v (.int .i64 b1), .v (.int .i64 r1), .v (.int .i64 p1), .v (.int .i64 b2), .v (.int .i64 r2), .v (.int .i64 p2)], .v (.int .i64 us), .v (.int .i64 en), .v (.int .u64 a)]=>
  some (.aS [(nR te b0 r0 p0 b1 r1 p1 b2 r2 p2 us en a).o,i64 (newE te b0 r0 p0 b1 r1 p1 b2 r2 p2 us en)],[])
 |_=>none
theorem adg (args res l) (h:abd args=some (res,l)) (hl:aJ l):Kl 10 args res:=by
 unfold abd at h;split at h
 ·obtain⟨rfl,rfl⟩:=dB h;exact agD _ _ _ _ _ _ _ _ _ _ _ _ _
 ·cases h
theorem aeu (args res l) (h:abd args=some (res,l)) (hl:aJ l):Kl 11 args res:=by
 unfold abd at h;split at h
 ·obtain⟨rfl,rfl⟩:=dB h;exact agt _ _ _ _ _ _ _ _ _ _ _ _ _
 ·cases h
def Nb:List D→Option (D×List Prop)
 |[d, .v (.int .u32 u), .v (.int .u16 e), .v (.int .u32 co), .v (.int .u64 a)]=>match Yp d with
  |some Q=>some (.aS [(vG Q u e co a).o,O5 Q u e co a,i64 (vM Q u)],[asS Q u e co a])
  |none=>none
 |_=>none
theorem Ux {args:List D} {res:D} {l:List Prop} (h:Nb args=some (res,l)):∃ Q u e co a,args=[Pt.d Q,u32 u,u16 e,u32 co,u64 a]∧res= .aS [(vG Q u e co a).o,O5 Q u e co a,i64 (vM Q u)]∧l=[asS Q u e co a]:=by
 unfold Nb at h;split at h
 next d u e co a=>
  split at h
  next Q ht=>obtain⟨rfl,rfl⟩:=dB h;exact⟨Q,u,e,co,a,by rw[I8 ht],rfl,rfl⟩
  ·cases h
 ·cases h
theorem afp (args res l) (h:Nb args=some (res,l)) (hl:aJ l):Kl 12 args res:=by
 obtain⟨Q,u,e,co,a,rfl,rfl,rfl⟩:=Ux h;exact aiv Q u e co a hl.1
theorem aez (args res l) (h:Nb args=some (res,l)) (hl:aJ l):Kl 13 args res:=by
 obtain⟨Q,u,e,co,a,rfl,rfl,rfl⟩:=Ux h;exact Qs Q u e co a hl.1
def XA2:aB:=aF 10 (.call abd) (aF 11 (.call abd) (aF 12 (.call Nb) (aF 13 (.call Nb) (aF 14 (.call ajg) MJ))))
theorem an4:bT Pg XA2:=aj adg (aj aeu (aj afp (aj aez (aj aeE sQ))))
def rpE (Q:Pt) (u e co a:Int):Bool:=((gd Q u (Vg Q u e co a)) ==(gd Q u (Vg Q u e co a)) && ((gd Q u Q.te) ==(gd Q u Q.te) && (((gd Q u (IntKind.wrap .u32 (n0 Q u e co a).v)) ==(gd Q u (IntKind.wrap .u32 (n0 Q u e co a).v)) && ((gd Q u (IntKind.wrap .u32 (n1 Q u e co a).v)) ==(gd Q u (IntKind.wrap .u32 (n1 Q u e co a).v)) && ((gd Q u (IntKind.wrap .u32 (n2 Q u e co a).v)) ==(gd Q u (IntKind.wrap .u32 (n2 Q u e co a).v)) && true))) && ((gd Q u (SS Q u e co a)) ==(gd Q u (SS Q u e co a)) && true))))
theorem amT (Q:Pt) (te b0 r0 p0 b1 r1 p1 b2 r2 p2 us en u e co a:Int):iY Pg XA2 100000 [.d true] 3 [Q.d,u32 te,oJ b0 r0 p0 b1 r1 p1 b2 r2 p2,i64 us,i64 en,u32 u,u16 e,u32 co,u64 a]=some (bo true,[Q.great=true]):=by kernel_rfl
theorem an0 (Q:Pt) (te b0 r0 p0 b1 r1 p1 b2 r2 p2 us en u e co a:Int):iY Pg XA2 100000 [.d false, .c 2, .d true, .c 3, .d true, .c 4, .d true, .c 1, .d true, .c 1] 3 [Q.d,u32 te,oJ b0 r0 p0 b1 r1 p1 b2 r2 p2,i64 us,i64 en,u32 u,u16 e,u32 co,u64 a]=some (bo true,CP Q ++ ([Q=Q,YK Q,ah .eql (vM Q u) (vM Q u)=true,rpE Q u e co a=true] ++ (CP (vG Q u e co a) ++ (CP (vG Q u e co a) ++ ([(vG Q u e co a)=(vG Q u e co a),YK (vG Q u e co a),ah .eql (sD Q) (sD Q)=true,Nc Q] ++ (CP Q ++ ([Nc Q,ah .eql (newE te b0 r0 p0 b1 r1 p1 b2 r2 p2 us en) (newE te b0 r0 p0 b1 r1 p1 b2 r2 p2 us en)=true] ++ (CP (nR te b0 r0 p0 b1 r1 p1 b2 r2 p2 us en a) ++ (CP (nR te b0 r0 p0 b1 r1 p1 b2 r2 p2 us en a) ++ ([(nR te b0 r0 p0 b1 r1 p1 b2 r2 p2 us en a)=(nR te b0 r0 p0 b1 r1 p1 b2 r2 p2 us en a),YK (nR te b0 r0 p0 b1 r1 p1 b2 r2 p2 us en a),asS Q u e co a] ++ (CP Q ++ ([asS Q u e co a,YK Q,Q.great=false])))))))))))):=by kernel_rfl
theorem alV (x:Int):ah .eql x x=true:=by rw[bY]
theorem aja:YK q0:=⟨QO,QO,by decide⟩
theorem YP {T:Tb} (w:Lu T) (k b r p v q a:Int):Lu (seT T k b r p v q a):=by
 unfold seT;split
 ·obtain⟨h1,⟨k1,k2,k3,k4,k5,k6⟩,h3,h4,h5,h6,h7⟩:=w
  refine⟨h1,⟨?_,?_,?_,?_,?_,?_⟩,h3,h4,h5,h6,h7⟩<;>simp only[Tb.put,List.length_set]<;>omega
 ·exact QO
theorem Y1 (n:Int):Lu (nwV n):=by
 unfold nwV
 split
 ·next c=>
  refine⟨?_,⟨?_,?_,?_,?_,?_,?_⟩,?_,?_,⟨?_,?_,?_⟩,?_,?_⟩<;>simp[nwT,zr,mr,nwX,zc1,zc2]<;>omega
 ·exact QO
theorem ahg {Q:Pt} {u e co a:Int} (h:asS Q u e co a):YK (vG Q u e co a):=by
 unfold vG;split
 next c=>
  have f:=CW h c.1
  exact⟨YP (Bf f.bu.ok) _ _ _ _ _ _ _,YP (Bf f.be.ok) _ _ _ _ _ _ _,h.1.2.2.2⟩
 ·exact aja
theorem ahS (te b0 r0 p0 b1 r1 p1 b2 r2 p2 us en a:Int):YK (nR te b0 r0 p0 b1 r1 p1 b2 r2 p2 us en a):=by
 unfold nR;split
 ·exact⟨Y1 _,Y1 _,by simp[newP]⟩
 ·exact aja
theorem acN {Q:Pt} (h:ah5 Q) (g:Q.great=false):Nc Q:=by
 obtain⟨_,hv,_,hU,hE,_⟩:=h
 simp only[Pt.great,Bool.or_eq_false_iff,decide_eq_false_iff_not] at g
 exact⟨hv,aeQ hU g.1,aeQ hE g.2.1,by omega⟩
theorem ajY {Q:Pt} (h:ah5 Q) (g:Q.great=false) {u e co a:Int} (hu:eX u) (he:inE e) (hc:eX co) (ha:OC a):asS Q u e co a:=by
 have ho:=acN h g
 obtain⟨_,_,hoa,hU,hE,_,h1,h2,h3⟩:=h
 exact⟨ho,hu,he,hc,ha,hoa,hU,hE,h1,h2,h3⟩
theorem ahU (Q:Pt) (te b0 r0 p0 b1 r1 p1 b2 r2 p2 us en u e co a:Int) (hh:ah5 Q∧eX te∧(gy b0∧gy r0∧gy p0∧gy b1∧gy r1∧gy p1∧gy b2∧gy r2∧gy p2)∧gy us∧gy en∧eX u∧inE e∧eX co∧OC a):
  Kl 3 [Q.d,u32 te,oJ b0 r0 p0 b1 r1 p1 b2 r2 p2,i64 us,i64 en,u32 u,u16 e,u32 co,u64 a] (bo true):=by
 obtain⟨hq,_,_,_,_,hu,he,hc,ha⟩:=hh
 cases f0:Q.great with
 |true=>exact aT an4 (amT Q te b0 r0 p0 b1 r1 p1 b2 r2 p2 us en u e co a) ⟨f0,trivial⟩ rfl
 |false=>
  have ho:=acN hq f0
  have hs:=ajY hq f0 hu he hc ha
  have w:=YJ ho
  refine aT an4 (an0 Q te b0 r0 p0 b1 r1 p1 b2 r2 p2 us en u e co a) ?_ rfl
  repeat rw[aZ]
  exact⟨lD _,⟨rfl,w,alV _,by simp[rpE],trivial⟩,lD _,lD _,⟨rfl,ahg hs,alV _,ho,trivial⟩,lD _,⟨ho,alV _,trivial⟩,lD _,lD _,⟨rfl,ahS _ _ _ _ _ _ _ _ _ _ _ _ _,hs,trivial⟩,lD _,hs,w,f0,trivial⟩
end TableS
end
noncomputable section
namespace Go.Proofs.YtfoelbdkgaliaaaGreat.partAsks
open Go.ChangeShapes Go.WideShapes Go.ChangeAt Go.RowKit Go.Dam _root_.TableS
set_option maxRecDepth 100000
theorem walk (W:World) (v0 v1 v2 v3 v4 v5 v6 v7 v8:Value) (l0:List Value) (n1:Int) (f2:Nat→Int) (n3:Int) (n4:Int) (n5:Int) (n6:Int) (n7:Int) (n8:Int) (h0:v0= .agg l0.toArray) (w0:jl W P6 l0) (h1:v1= .int .u32 n1) (w1:(Lit.int .u32 n1).wf=true) (h2:v2= .agg (Ap WZ f2).toArray) (w2:∀ j k,WZ[j]? =some k→(Lit.int k (f2 j)).wf=true) (h3:v3= .int .i64 n3) (w3:(Lit.int .i64 n3).wf=true) (h4:v4= .int .i64 n4) (w4:(Lit.int .i64 n4).wf=true) (h5:v5= .int .u32 n5) (w5:(Lit.int .u32 n5).wf=true) (h6:v6= .int .u16 n6) (w6:(Lit.int .u16 n6).wf=true) (h7:v7= .int .u32 n7) (w7:(Lit.int .u32 n7).wf=true) (h8:v8= .int .u64 n8) (w8:(Lit.int .u64 n8).wf=true):
  Calls Tryz.prog 3 #[v0,v1,v2,v3,v4,v5,v6,v7,v8] W (fun e W'=>e= .returned (.bool true)∧Below W.heap.size W W'):=by
 obtain⟨T0,t0,r0⟩:=agF w0
 subst h0;subst h1;subst h2;subst h3;subst h4;subst h5;subst h6;subst h7;subst h8
 refine(ahU T0 n1 (f2 0) (f2 1) (f2 2) (f2 3) (f2 4) (f2 5) (f2 6) (f2 7) (f2 8) n3 n4 n5 n6 n7 n8 ⟨t0,Go.Dam.wf_u32 w1,⟨TableS.wf_i64 (w2 0 .i64 rfl),TableS.wf_i64 (w2 1 .i64 rfl),TableS.wf_i64 (w2 2 .i64 rfl),TableS.wf_i64 (w2 3 .i64 rfl),TableS.wf_i64 (w2 4 .i64 rfl),TableS.wf_i64 (w2 5 .i64 rfl),TableS.wf_i64 (w2 6 .i64 rfl),TableS.wf_i64 (w2 7 .i64 rfl),TableS.wf_i64 (w2 8 .i64 rfl)⟩,TableS.wf_i64 w3,TableS.wf_i64 w4,Go.Dam.wf_u32 w5,TableS.wf_u16 w6,Go.Dam.wf_u32 w7,TableS.wf_u64 w8⟩ W (fun k=>k<W.heap.size) [_,_,_,_,_,_,_,_,_] ?_ (fun _ h=>h) (fun g h=>absurd rfl h)).mono ?_
 ·exact⟨_,_,rfl,r0,⟨_,_,rfl,rfl,⟨_,_,rfl,ack _ _,⟨_,_,rfl,rfl,⟨_,_,rfl,rfl,⟨_,_,rfl,rfl,⟨_,_,rfl,rfl,⟨_,_,rfl,rfl,⟨_,_,rfl,rfl,rfl⟩⟩⟩⟩⟩⟩⟩⟩⟩
 ·rintro e w' ⟨v,A',bl,rfl,hr,_,_,_,_,hb⟩
  have hv:v= .bool true:=by
   simp only[eH,aG] at hr
   exact hr.1
  exact⟨by rw[hv],hb⟩
theorem own:ownKnob Tryz.prog.godebug=none:=by kernel_rfl
theorem laidOut:laidOutB Tryz.prog=true:=by kernel_rfl
theorem lifted (os:Os) (started:os.Started) (H:Type) (enc:TypeId×Value→H):
  ReturnsInHanded {} Tryz.checked os 3 .any (Rows.partAsksSpec.pre6 enc Tryz.prog Tryz.f3 Rows.partAsksRow.domain false) (Rows.partAsksSpec.post enc Tryz.prog Tryz.f3 false true false false):=by
 refine returnsInHanded_of_change_sized (C:=Tryz.checked) own started (by kernel_rfl) Tryz.func3
  (ChangeSpec.witness6 (enc:=enc) (C:=Tryz.checked) false ⟨#[],#[.agg #[.int .u32 0, .int .i64 0, .int .i64 0, .int .i64 0, .int .i64 0, .int .i64 0, .int .i64 0, .int .i64 0, .int .i64 0, .int .i64 0, .int .i64 0, .int .i64 0, .int .i64 0, .int .i64 0, .int .i64 0, .int .u64 0, .int .i64 0, .slice none 0 0, .slice none 0 0, .slice none 0 0, .slice none 0 0, .int .i64 0, .slice none 0 0, .slice none 0 0, .slice none 0 0, .int .i64 0, .int .i64 0, .int .i64 0, .slice none 0 0, .slice none 0 0, .slice none 0 0, .slice none 0 0, .int .i64 0, .slice none 0 0, .slice none 0 0, .slice none 0 0, .int .i64 0, .int .i64 0, .slice none 0 0, .int .u64 0, .int .u64 0, .int .u64 0], .int .u32 0, .agg #[.int .i64 0, .int .i64 0, .int .i64 0, .int .i64 0, .int .i64 0, .int .i64 0, .int .i64 0, .int .i64 0, .int .i64 0], .int .i64 0, .int .i64 0, .int .u32 0, .int .u16 0, .int .u32 0, .int .u64 0],[]⟩ 8 (by kernel_rfl) (by kernel_rfl) (by kernel_rfl) (by kernel_rfl)) ?_
 intro W base args ds gs before hval0 hW hcnd hsz0 _
 have hval:∀ (j:Nat) t v,Tryz.f3.params[j]? =some t→args[j]? =some v→Value.okWide Tryz.prog W .any base t v:=hval0
 have hW':=hW
 obtain⟨p,q,hA0,hV,rfl,hfz,hnd⟩:=hW
 have hA:DataW.TrodAll enc Tryz.prog W 0 (fun _=>true) true Tryz.f3.params.toList args.toList ds p:=hA0
 rw[Tryz.params3] at hA hval
 obtain⟨v0,vs0,d0,ds0,p0,q0,hargs,rfl,rfl,h0,r0⟩:=trodAll_cons hA
 obtain⟨v1,vs1,d1,ds1,p1,q1,rfl,rfl,rfl,h1,r1⟩:=trodAll_cons r0
 obtain⟨v2,vs2,d2,ds2,p2,q2,rfl,rfl,rfl,h2,r2⟩:=trodAll_cons r1
 obtain⟨v3,vs3,d3,ds3,p3,q3,rfl,rfl,rfl,h3,r3⟩:=trodAll_cons r2
 obtain⟨v4,vs4,d4,ds4,p4,q4,rfl,rfl,rfl,h4,r4⟩:=trodAll_cons r3
 obtain⟨v5,vs5,d5,ds5,p5,q5,rfl,rfl,rfl,h5,r5⟩:=trodAll_cons r4
 obtain⟨v6,vs6,d6,ds6,p6,q6,rfl,rfl,rfl,h6,r6⟩:=trodAll_cons r5
 obtain⟨v7,vs7,d7,ds7,p7,q7,rfl,rfl,rfl,h7,r7⟩:=trodAll_cons r6
 obtain⟨v8,vs8,d8,ds8,p8,q8,rfl,rfl,rfl,h8,r8⟩:=trodAll_cons r7
 obtain⟨rfl,rfl,rfl⟩:=trodAll_nil r8
 obtain rfl:args=#[v0,v1,v2,v3,v4,v5,v6,v7,v8]:=by cases args;simp_all
 obtain⟨rfl,rfl⟩:=trodVars_none hV
 have lt:∀ {t:TypeId} {v:Value} {d:DataW H} {ps:List MemPlace},DataW.Trod enc Tryz.prog W 0 (fun _=>true) true t v d ps→∀ x∈ps,x.block<W.heap.size:=fun h=>by
  obtain⟨m,hm⟩:=h;exact DataW.trod_lt m _ _ _ hm
 obtain⟨l0,e0,w0⟩:=aaH (n:=7) (ks:=P6) (by kernel_rfl) (by rw[Tryz.underlying43]) (hval 0 43 v0 rfl rfl) h0
 obtain⟨n1,e1,_,_,w1⟩:=open_int (k:= .u32) Tryz.underlying22 (hval 1 22 v1 rfl rfl) h1
 obtain⟨f2,e2,w2⟩:=open_ints (n:=5) (ks:=WZ) (by kernel_rfl) (by rw[Tryz.underlying25]) (hval 2 25 v2 rfl rfl) h2
 obtain⟨n3,e3,_,_,w3⟩:=open_int (k:= .i64) Tryz.underlying3 (hval 3 3 v3 rfl rfl) h3
 obtain⟨n4,e4,_,_,w4⟩:=open_int (k:= .i64) Tryz.underlying3 (hval 4 3 v4 rfl rfl) h4
 obtain⟨n5,e5,_,_,w5⟩:=open_int (k:= .u32) Tryz.underlying22 (hval 5 22 v5 rfl rfl) h5
 obtain⟨n6,e6,_,_,w6⟩:=open_int (k:= .u16) Tryz.underlying44 (hval 6 44 v6 rfl rfl) h6
 obtain⟨n7,e7,_,_,w7⟩:=open_int (k:= .u32) Tryz.underlying22 (hval 7 22 v7 rfl rfl) h7
 obtain⟨n8,e8,_,_,w8⟩:=open_int (k:= .u64) Tryz.underlying26 (hval 8 26 v8 rfl rfl) h8
 clear hA0 hval0 hsz0
 refine(walk W v0 v1 v2 v3 v4 v5 v6 v7 v8 l0 n1 f2 n3 n4 n5 n6 n7 n8 e0 w0 e1 w1 e2 w2 e3 w3 e4 w4 e5 w5 e6 w6 e7 w7 e8 w8).mono fun e W' ⟨he,bel⟩=>?_
 subst he
 exact⟨_,rfl,_,_,_,[],_,[],hW',trodAll_mk1 (shut_bool Tryz.underlying4 _),
  (trodAll_cons_mk (Below.trod laidOut (by kernel_rfl) (of_decide_eq_true (by kernel_rfl)) h0 bel (lt h0)) (trodAll_cons_mk (Below.trod laidOut (by kernel_rfl) (of_decide_eq_true (by kernel_rfl)) h1 bel (lt h1)) (trodAll_cons_mk (Below.trod laidOut (by kernel_rfl) (of_decide_eq_true (by kernel_rfl)) h2 bel (lt h2)) (trodAll_cons_mk (Below.trod laidOut (by kernel_rfl) (of_decide_eq_true (by kernel_rfl)) h3 bel (lt h3)) (trodAll_cons_mk (Below.trod laidOut (by kernel_rfl) (of_decide_eq_true (by kernel_rfl)) h4 bel (lt h4)) (trodAll_cons_mk (Below.trod laidOut (by kernel_rfl) (of_decide_eq_true (by kernel_rfl)) h5 bel (lt h5)) (trodAll_cons_mk (Below.trod laidOut (by kernel_rfl) (of_decide_eq_true (by kernel_rfl)) h6 bel (lt h6)) (trodAll_cons_mk (Below.trod laidOut (by kernel_rfl) (of_decide_eq_true (by kernel_rfl)) h7 bel (lt h7)) (trodAll_cons_mk (Below.trod laidOut (by kernel_rfl) (of_decide_eq_true (by kernel_rfl)) h8 bel (lt h8)) trodAll_mk0))))))))),rfl,bel.frame _,fun h=>by cases h⟩
theorem over:Rows.partAsksRow.holds Tryz.pinned (OpenSpec.ofChange Rows.partAsksSpec):=
 OpenClaim.holds_of_wide 3 Tryz.f3 rfl rfl rfl rfl rfl rfl rfl ⟨rfl,rfl,rfl,rfl,rfl⟩ rfl rfl rfl rfl rfl (by kernel_rfl) Tryz.func3 (by kernel_rfl)
  (of_decide_eq_true (by kernel_rfl)) (by unfold Func.isWrapper;first | (rw[if_pos (by decide +kernel)];kernel_rfl) | (rw[if_neg (by decide +kernel)];exact⟨rfl,rfl⟩))
  (fun os started H enc _=>lifted os started H enc)
theorem proved:Rows.PartAsksSaid:=over
#print axioms proved
end Go.Proofs.YtfoelbdkgaliaaaGreat.partAsks
namespace Go.Proofs.YtfoelbdkgaliaaaGreat
theorem partAsks_holds:Rows.PartAsksSaid:=partAsks.proved
end Go.Proofs.YtfoelbdkgaliaaaGreat
end
