/- What the functions compute, and the law. No condition. -/
import Derived.Test.YtfoelbdkgaliaaaGreatDamYA
import Derived.Test.YtfoelbdkgaliaaaGreatPyMK
set_option linter.unusedSectionVars false
set_option linter.unusedVariables false
set_option linter.unusedSimpArgs false
noncomputable section
namespace MeterS
open Go Go.Dam Go.Proofs
set_option maxRecDepth 1000000
variable [iG]
def dJ (x y c:Int):Int:=if x<y+c then 1 else 0
theorem aoP (x y c:Int) (hx:0≤x) (hx1:x<18446744073709551616) (hy:0≤y) (hy1:y<18446744073709551616) (h0:0≤c) (h1:c≤1):dK Pg (callFunc 169 #[.int .u64 x, .int .u64 y, .int .u64 c]) =
  some (.value (.tuple #[.int .u64 ((x - y - c)%18446744073709551616), .int .u64 (dJ x y c)])):=by
 obtain⟨m,rfl⟩:=Int.eq_ofNat_of_zero_le hx
 obtain⟨n,rfl⟩:=Int.eq_ofNat_of_zero_le hy
 have e0:dK Pg (callFunc 169 #[.int .u64 (Int.ofNat m), .int .u64 (Int.ofNat n), .int .u64 0])=some (.value (.tuple #[.int .u64 (Int.ofNat ((m+18446744073709551616 - n - 0)%18446744073709551616)), .int .u64 (Int.ofNat (if m<n+0 then 1 else 0))])):=by kernel_rfl
 have e1:dK Pg (callFunc 169 #[.int .u64 (Int.ofNat m), .int .u64 (Int.ofNat n), .int .u64 1])=some (.value (.tuple #[.int .u64 (Int.ofNat ((m+18446744073709551616 - n - 1)%18446744073709551616)), .int .u64 (Int.ofNat (if m<n+1 then 1 else 0))])):=by kernel_rfl
 unfold dJ
 obtain rfl | rfl:c=0∨c=1:=by omega
 ·have a:(Int.ofNat ((m+18446744073709551616 - n - 0)%18446744073709551616):Int)=((m:Int) - n - 0)%18446744073709551616:=by
   rw[Int.ofNat_eq_natCast];omega
  have b:(Int.ofNat (if m<n+0 then 1 else 0):Int)=if(m:Int)<n+0 then 1 else 0:=by
   by_cases q:m<n
   ·rw[if_pos (by omega),if_pos (by omega)];rfl
   ·rw[if_neg (by omega),if_neg (by omega)];rfl
  rw[a,b] at e0;exact e0
 ·have a:(Int.ofNat ((m+18446744073709551616 - n - 1)%18446744073709551616):Int)=((m:Int) - n - 1)%18446744073709551616:=by
   rw[Int.ofNat_eq_natCast];omega
  have b:(Int.ofNat (if m<n+1 then 1 else 0):Int)=if(m:Int)<n+1 then 1 else 0:=by
   by_cases q:m<n+1
   ·rw[if_pos q,if_pos (by omega)];rfl
   ·rw[if_neg q,if_neg (by omega)];rfl
  rw[a,b] at e1;exact e1
def adB:List Value→Option (Value×List Prop)
 |[.int .u64 x, .int .u64 y, .int .u64 c]=>some (.tuple #[.int .u64 ((x - y - c)%18446744073709551616), .int .u64 (dJ x y c)],[0≤x,x<18446744073709551616,0≤y,y<18446744073709551616,0≤c,c≤1])
 |_=>none
def XS:aB:=aF 169 (.ext adB) X6
theorem hXS:bT Pg XS:=MZ (fun vs u l h hl=>by
 unfold adB at h
 split at h
 next x y c=>
  obtain⟨rfl,rfl⟩:=dB h
  obtain⟨h1,h2,h3,h4,h5,h6,_⟩:=hl
  exact aoP x y c h1 h2 h3 h4 h5 h6
 ·cases h) hX6
theorem aim (h l d e:Int):iY Pg (XS) 100000 [.d true] 142 [D.agg [D.v (Value.int .u64 h),D.v (Value.int .u64 l)],
 D.agg [D.v (Value.int .u64 d),D.v (Value.int .u64 e)]]=some (D.aS [D.agg [D.v (Value.int .u64 0),D.v (Value.int .u64 0)],D.v (Value.int .i64 16)],[ah .neq (dJ h d (dJ l e 0)) 0=true,
 0≤h,
 h<18446744073709551616,
 0≤d,
 d<18446744073709551616,
 0≤dJ l e 0,
 dJ l e 0≤1,
 0≤l,
 l<18446744073709551616,
 0≤e,
 e<18446744073709551616,
 (0:Int)≤(0:Int),
 (0:Int)≤(1:Int)]):=by kernel_rfl
theorem aiJ (h l d e:Int):iY Pg (XS) 100000 [.d false] 142 [D.agg [D.v (Value.int .u64 h),D.v (Value.int .u64 l)],
 D.agg [D.v (Value.int .u64 d),D.v (Value.int .u64 e)]]=some (D.aS
 [D.agg
   [D.v (Value.int .u64 ((h - d - dJ l e 0)%18446744073709551616)),
    D.v (Value.int .u64 ((l - e - 0)%18446744073709551616))],
  D.v (Value.int .i64 0)],[ah .neq (dJ h d (dJ l e 0)) 0=false,
 0≤h,
 h<18446744073709551616,
 0≤d,
 d<18446744073709551616,
 0≤dJ l e 0,
 dJ l e 0≤1,
 0≤l,
 l<18446744073709551616,
 0≤e,
 e<18446744073709551616,
 (0:Int)≤(0:Int),
 (0:Int)≤(1:Int)]):=by kernel_rfl
theorem XC (h l d e:Int) (res:D)
 (h0:((ah .neq (dJ h d (dJ l e 0)) 0)=true)→((0≤h)∧(h<18446744073709551616)∧(0≤d)∧(d<18446744073709551616)∧(0≤dJ l e 0)∧(dJ l e 0≤1)∧(0≤l)∧(l<18446744073709551616)∧(0≤e)∧(e<18446744073709551616)∧((0:Int)≤(0:Int))∧((0:Int)≤(1:Int))∧True)∧res=D.aS [D.agg [D.v (Value.int .u64 0),D.v (Value.int .u64 0)],D.v (Value.int .i64 16)])
 (h1:((ah .neq (dJ h d (dJ l e 0)) 0)=false)→((0≤h)∧(h<18446744073709551616)∧(0≤d)∧(d<18446744073709551616)∧(0≤dJ l e 0)∧(dJ l e 0≤1)∧(0≤l)∧(l<18446744073709551616)∧(0≤e)∧(e<18446744073709551616)∧((0:Int)≤(0:Int))∧((0:Int)≤(1:Int))∧True)∧res=D.aS
 [D.agg
   [D.v (Value.int .u64 ((h - d - dJ l e 0)%18446744073709551616)),
    D.v (Value.int .u64 ((l - e - 0)%18446744073709551616))],
  D.v (Value.int .i64 0)]):
 Kl 142 [D.agg [D.v (Value.int .u64 h),D.v (Value.int .u64 l)],
 D.agg [D.v (Value.int .u64 d),D.v (Value.int .u64 e)]] res:=by
 cases e0:(ah .neq (dJ h d (dJ l e 0)) 0) with
 |true=>
  exact aT (hXS) (aim h l d e) ⟨e0,(h0 e0).1.1,(h0 e0).1.2.1,(h0 e0).1.2.2.1,(h0 e0).1.2.2.2.1,(h0 e0).1.2.2.2.2.1,(h0 e0).1.2.2.2.2.2.1,(h0 e0).1.2.2.2.2.2.2.1,(h0 e0).1.2.2.2.2.2.2.2.1,(h0 e0).1.2.2.2.2.2.2.2.2.1,(h0 e0).1.2.2.2.2.2.2.2.2.2.1,(h0 e0).1.2.2.2.2.2.2.2.2.2.2.1,(h0 e0).1.2.2.2.2.2.2.2.2.2.2.2.1,trivial⟩ (h0 e0).2
 |false=>
  exact aT (hXS) (aiJ h l d e) ⟨e0,(h1 e0).1.1,(h1 e0).1.2.1,(h1 e0).1.2.2.1,(h1 e0).1.2.2.2.1,(h1 e0).1.2.2.2.2.1,(h1 e0).1.2.2.2.2.2.1,(h1 e0).1.2.2.2.2.2.2.1,(h1 e0).1.2.2.2.2.2.2.2.1,(h1 e0).1.2.2.2.2.2.2.2.2.1,(h1 e0).1.2.2.2.2.2.2.2.2.2.1,(h1 e0).1.2.2.2.2.2.2.2.2.2.2.1,(h1 e0).1.2.2.2.2.2.2.2.2.2.2.2.1,trivial⟩ (h1 e0).2
def ale (x y:Int):D:= .aS [wd (if y≤x then x - y else 0),i64 (if y≤x then 0 else 16)]
theorem aiK (h l d e:Int) (h0:0≤h) (h1:h<18446744073709551616) (l0:0≤l) (l1:l<18446744073709551616) (d0:0≤d) (d1:d<18446744073709551616) (e0:0≤e) (e1:e<18446744073709551616):
  Kl 142 [.agg [u64 h,u64 l], .agg [u64 d,u64 e]] (ale (h*18446744073709551616+l) (d*18446744073709551616+e)):=by
 have key:∀ c:Int,(l<e∧c=1)∨(¬ l<e∧c=0)→(¬ h<d+c→d*18446744073709551616+e≤h*18446744073709551616+l∧(h - d - c)%18446744073709551616=(h*18446744073709551616+l - (d*18446744073709551616+e)) / 18446744073709551616∧(l - e)%18446744073709551616=(h*18446744073709551616+l - (d*18446744073709551616+e))%18446744073709551616)∧(h<d+c→¬ d*18446744073709551616+e≤h*18446744073709551616+l):=fun c hc=>by
  constructor
  ·intro q;omega
  ·intro q;omega
 have hb:dJ l e 0=1∧l<e∨dJ l e 0=0∧¬ l<e:=by unfold dJ;split<;>omega
 obtain⟨c,hc⟩:∃ c,dJ l e 0=c:=⟨_,rfl⟩
 rw[hc] at hb
 have hk:=key c (by omega)
 have hb2:dJ h d c=1∧h<d+c∨dJ h d c=0∧¬ h<d+c:=by unfold dJ;split<;>omega
 refine XC h l d e _ ?_ ?_
 all_goals simp only[hc]
 ·intro a
  rw[aI] at a
  have g:h<d+c:=by omega
  refine⟨by simp only[and_true];omega,?_⟩
  unfold ale;rw[if_neg (hk.2 g),if_neg (hk.2 g)];rfl
 ·intro a
  rw[aQ] at a
  obtain⟨k1,k2,k3⟩:=hk.1 (by omega)
  refine⟨by simp only[and_true];omega,?_⟩
  unfold ale wd;rw[if_pos k1,if_pos k1,←k2,←k3,Int.sub_zero]
end MeterS
end
noncomputable section
namespace MeterS
open Go Go.Dam Go.Proofs
set_option maxRecDepth 1000000
theorem nT (a:Int):a / 18446744073709551616*18446744073709551616+a%18446744073709551616=a:=Int.ediv_mul_add_emod a _
def MX (a d:Int):Int:=if a%d=0 then a / d else a / d+1
variable [iG]
theorem amn (h l d:Int):iY Pg (XS) 100000 [.c 1, .d true] 143 [D.agg [D.v (Value.int .u64 h),D.v (Value.int .u64 l)],D.v (Value.int .u64 d)]=some (D.aS
 [D.agg
   [D.v (Value.int .u64 ((h*18446744073709551616+l) / d / 18446744073709551616)),
    D.v (Value.int .u64 ((h*18446744073709551616+l) / d%18446744073709551616))],
  D.v (Value.int .i64 0)],[ah .eql ((h*18446744073709551616+l)%d) 0=true,
 0<d,
 d<4294967296,
 0≤h,
 h<18446744073709551616,
 0≤l,
 l<18446744073709551616]):=by kernel_rfl
theorem amJ (h l d:Int):iY Pg (XS) 100000 [.c 1, .d false] 143 [D.agg [D.v (Value.int .u64 h),D.v (Value.int .u64 l)],D.v (Value.int .u64 d)]=some (D.aS
 [D.agg
   [D.v
     (Value.int .u64
      ((if
         (h*18446744073709551616+l) / d / 18446744073709551616*18446744073709551616 +
            (h*18446744073709551616+l) / d%18446744073709551616 +
           (0*18446744073709551616+1) <
          340282366920938463463374607431768211456 then
        (h*18446744073709551616+l) / d / 18446744073709551616*18446744073709551616 +
          (h*18446744073709551616+l) / d%18446744073709551616 +
         1
       else 0) /
       18446744073709551616)),
    D.v
     (Value.int .u64
      ((if
         (h*18446744073709551616+l) / d / 18446744073709551616*18446744073709551616 +
            (h*18446744073709551616+l) / d%18446744073709551616 +
           (0*18446744073709551616+1) <
          340282366920938463463374607431768211456 then
        (h*18446744073709551616+l) / d / 18446744073709551616*18446744073709551616 +
          (h*18446744073709551616+l) / d%18446744073709551616 +
         1
       else 0) %
       18446744073709551616))],
  D.v
   (Value.int .i64
    (if
      (h*18446744073709551616+l) / d / 18446744073709551616*18446744073709551616 +
         (h*18446744073709551616+l) / d%18446744073709551616 +
        (0*18446744073709551616+1) <
       340282366920938463463374607431768211456 then
     0
    else 16))],[0≤(h*18446744073709551616+l) / d / 18446744073709551616,
 (h*18446744073709551616+l) / d / 18446744073709551616<18446744073709551616,
 0≤(h*18446744073709551616+l) / d%18446744073709551616,
 (h*18446744073709551616+l) / d%18446744073709551616<18446744073709551616,
 (0:Int)≤(0:Int),
 (0:Int)<(18446744073709551616:Int),
 (0:Int)≤(1:Int),
 (1:Int)<(18446744073709551616:Int),
 ah .eql ((h*18446744073709551616+l)%d) 0=false,
 0<d,
 d<4294967296,
 0≤h,
 h<18446744073709551616,
 0≤l,
 l<18446744073709551616]):=by kernel_rfl
theorem abQ (h l d:Int) (res:D)
 (h0:((ah .eql ((h*18446744073709551616+l)%d) 0)=true)→((0<d)∧(d<4294967296)∧(0≤h)∧(h<18446744073709551616)∧(0≤l)∧(l<18446744073709551616)∧True)∧res=D.aS
 [D.agg
   [D.v (Value.int .u64 ((h*18446744073709551616+l) / d / 18446744073709551616)),
    D.v (Value.int .u64 ((h*18446744073709551616+l) / d%18446744073709551616))],
  D.v (Value.int .i64 0)])
 (h1:((ah .eql ((h*18446744073709551616+l)%d) 0)=false)→((0≤(h*18446744073709551616+l) / d / 18446744073709551616)∧((h*18446744073709551616+l) / d / 18446744073709551616<18446744073709551616)∧(0≤(h*18446744073709551616+l) / d%18446744073709551616)∧((h*18446744073709551616+l) / d%18446744073709551616<18446744073709551616)∧((0:Int)≤(0:Int))∧((0:Int)<(18446744073709551616:Int))∧((0:Int)≤(1:Int))∧((1:Int)<(18446744073709551616:Int))∧(0<d)∧(d<4294967296)∧(0≤h)∧(h<18446744073709551616)∧(0≤l)∧(l<18446744073709551616)∧True)∧res=D.aS
 [D.agg
   [D.v
     (Value.int .u64
      ((if
         (h*18446744073709551616+l) / d / 18446744073709551616*18446744073709551616 +
            (h*18446744073709551616+l) / d%18446744073709551616 +
           (0*18446744073709551616+1) <
          340282366920938463463374607431768211456 then
        (h*18446744073709551616+l) / d / 18446744073709551616*18446744073709551616 +
          (h*18446744073709551616+l) / d%18446744073709551616 +
         1
       else 0) /
       18446744073709551616)),
    D.v
     (Value.int .u64
      ((if
         (h*18446744073709551616+l) / d / 18446744073709551616*18446744073709551616 +
            (h*18446744073709551616+l) / d%18446744073709551616 +
           (0*18446744073709551616+1) <
          340282366920938463463374607431768211456 then
        (h*18446744073709551616+l) / d / 18446744073709551616*18446744073709551616 +
          (h*18446744073709551616+l) / d%18446744073709551616 +
         1
       else 0) %
       18446744073709551616))],
  D.v
   (Value.int .i64
    (if
      (h*18446744073709551616+l) / d / 18446744073709551616*18446744073709551616 +
         (h*18446744073709551616+l) / d%18446744073709551616 +
        (0*18446744073709551616+1) <
       340282366920938463463374607431768211456 then
     0
    else 16))]):
 Kl 143 [D.agg [D.v (Value.int .u64 h),D.v (Value.int .u64 l)],D.v (Value.int .u64 d)] res:=by
 cases e0:(ah .eql ((h*18446744073709551616+l)%d) 0) with
 |true=>
  exact aT (hXS) (amn h l d) ⟨e0,(h0 e0).1.1,(h0 e0).1.2.1,(h0 e0).1.2.2.1,(h0 e0).1.2.2.2.1,(h0 e0).1.2.2.2.2.1,(h0 e0).1.2.2.2.2.2.1,trivial⟩ (h0 e0).2
 |false=>
  exact aT (hXS) (amJ h l d) ⟨(h1 e0).1.1,(h1 e0).1.2.1,(h1 e0).1.2.2.1,(h1 e0).1.2.2.2.1,(h1 e0).1.2.2.2.2.1,(h1 e0).1.2.2.2.2.2.1,(h1 e0).1.2.2.2.2.2.2.1,(h1 e0).1.2.2.2.2.2.2.2.1,e0,(h1 e0).1.2.2.2.2.2.2.2.2.1,(h1 e0).1.2.2.2.2.2.2.2.2.2.1,(h1 e0).1.2.2.2.2.2.2.2.2.2.2.1,(h1 e0).1.2.2.2.2.2.2.2.2.2.2.2.1,(h1 e0).1.2.2.2.2.2.2.2.2.2.2.2.2.1,(h1 e0).1.2.2.2.2.2.2.2.2.2.2.2.2.2.1,trivial⟩ (h1 e0).2
theorem amL (h l d:Int) (hd:0<d) (hd1:d<4294967296) (h0:0≤h) (h1:h<18446744073709551616) (l0:0≤l) (l1:l<18446744073709551616):
  Kl 143 [.agg [u64 h,u64 l],u64 d] (.aS [wd (MX (h*18446744073709551616+l) d),i64 0]):=by
 have q0:0≤(h*18446744073709551616+l) / d:=Int.ediv_nonneg (by omega) (by omega)
 have q1:(h*18446744073709551616+l) / d≤h*18446744073709551616+l:=Int.ediv_le_self _ (by omega)
 refine abQ h l d _ ?_ ?_
 ·intro a
  rw[bY] at a
  refine⟨by simp only[and_true];omega,?_⟩
  unfold MX;rw[if_pos a];rfl
 ·intro a
  rw[bV] at a
  have hq:(h*18446744073709551616+l) / d+1<340282366920938463463374607431768211456:=by
   have e:=Int.mul_ediv_add_emod (h*18446744073709551616+l) d
   have r0:=Int.emod_nonneg (h*18446744073709551616+l) (show d≠0 by omega)
   have r1:=Int.emod_lt_of_pos (h*18446744073709551616+l) hd
   have hd2:2*((h*18446744073709551616+l) / d)≤d*((h*18446744073709551616+l) / d):=Int.mul_le_mul_of_nonneg_right (show 2≤d by omega) q0
   omega
  simp only[nT,Int.zero_mul,Int.zero_add,if_pos hq]
  refine⟨by simp only[and_true];omega,?_⟩
  unfold MX;rw[if_neg a];rfl
def upC:List D→Option (D×List Prop)
 |[.agg [.v (.int .u64 h), .v (.int .u64 l)], .v (.int .u64 d)]=>some (.aS [wd (MX (h*18446744073709551616+l) d),i64 0],[0<d,d<4294967296,0≤h,h<18446744073709551616,0≤l,l<18446744073709551616])
 |_=>none
def aek:List D→Option (D×List Prop)
 |[.agg [.v (.int .u64 h), .v (.int .u64 l)], .agg [.v (.int .u64 d), .v (.int .u64 e)]]=>some (.aS [wd (if d*18446744073709551616+e≤h*18446744073709551616+l then h*18446744073709551616+l - (d*18446744073709551616+e) else 0),i64 (if d*18446744073709551616+e≤h*18446744073709551616+l then 0 else 16)],[0≤h,h<18446744073709551616,0≤l,l<18446744073709551616,0≤d,d<18446744073709551616,0≤e,e<18446744073709551616])
 |_=>none
theorem akR (args res l) (h:upC args=some (res,l)) (hl:aJ l):Kl 143 args res:=by
 unfold upC at h;split at h
 ·obtain⟨rfl,rfl⟩:=dB h;obtain⟨h0,h1,h2,h3,h4,h5,_⟩:=hl
  exact amL _ _ _ h0 h1 h2 h3 h4 h5
 ·cases h
theorem ac3 (args res l) (h:aek args=some (res,l)) (hl:aJ l):Kl 142 args res:=by
 unfold aek at h;split at h
 ·obtain⟨rfl,rfl⟩:=dB h;obtain⟨h0,h1,h2,h3,h4,h5,h6,h7,_⟩:=hl
  exact aiK _ _ _ _ h0 h1 h2 h3 h4 h5 h6 h7
 ·cases h
def X20:aB:=aF 143 (.call upC) (aF 142 (.call aek) XS)
theorem afU:bT Pg X20:=aj akR (aj ac3 hXS)
end MeterS
end
