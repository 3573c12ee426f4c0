/- What the functions compute, and the law. No condition. -/
import Derived.Test.YtfoelbdkgaliaaaPwMF
set_option linter.unusedSectionVars false
set_option linter.unusedVariables false
set_option linter.unusedSimpArgs false
section
namespace MeterS
open Go Go.Dam Go.Proofs
set_option maxRecDepth 1000000
theorem Qd (a b V:Nat) (ha:a<V) (hb:b<4294967296):a*4294967296+b<V*4294967296:=by omega
theorem WG (h p r a b K:Nat) (hK:p*r=K):(h*K+(r*a+b))*p=(h*p+a)*K+b*p:=by
 have h2:r*a*p=a*K:=by rw[←hK,Nat.mul_comm r a,Nat.mul_assoc,Nat.mul_comm r p]
 have h3:h*K*p=h*p*K:=Nat.mul_right_comm _ _ _
 rw[Nat.add_mul,Nat.add_mul,Nat.add_mul,h2,h3]
 omega
theorem Z9 (V a b c d w1 w0:Nat) (h:V*c+d=b*4294967296+w1):(V*a+b)*18446744073709551616+(4294967296*w1+w0)=(a*4294967296+c)*(V*4294967296)+(d*4294967296+w0):=by
 have e:(a*4294967296+c)*(V*4294967296)=V*a*18446744073709551616+V*c*4294967296:=by
  rw[Nat.add_mul,show a*4294967296*(V*4294967296)=V*a*18446744073709551616 by rw[Nat.mul_mul_mul_comm,Nat.mul_comm a V],show c*(V*4294967296)=V*c*4294967296 by rw[←Nat.mul_assoc,Nat.mul_comm c V]]
 rw[e]
 generalize V*a=m at *
 generalize V*c=n at *
 omega
set_option maxRecDepth 100000 in
theorem WT (y h l p r p':Nat) (hpr:p*r=18446744073709551616) (hp:p=4294967296*p') (hy:0<y) (hh:h<y) (hl:l<18446744073709551616) (hp0:0<p'):
  let U:=h*p+l / r
  let W:=(l%r)*p
  let V:=y*p'
  let q1:=U / V
  let T:=U%V*4294967296+W / 4294967296
  let q0:=T / V
  U<V*4294967296∧q1<4294967296∧q0<4294967296∧T<V*4294967296∧W<18446744073709551616∧
  q1*4294967296+q0=(h*18446744073709551616+l) / y∧(T%V*4294967296+W%4294967296) / p=(h*18446744073709551616+l)%y:=by
 intro U W V q1 T q0
 have hV:0<V:=Nat.mul_pos hy hp0
 have hr:0<r:=by
  rcases Nat.eq_zero_or_pos r with rfl | h
  ·simp at hpr
  ·exact h
 have hpp:0<p:=by omega
 have hlr:l / r<p:=by rw[Nat.div_lt_iff_lt_mul hr];omega
 have hlm:l%r<r:=Nat.mod_lt _ hr
 have hU:U<V*4294967296:=by
  have:h*p+p≤y*p:=by
   have:=Nat.mul_le_mul_right p (show h+1≤y by omega)
   rw[Nat.add_mul] at this;omega
  have e:V*4294967296=y*p:=by show y*p'*4294967296=y*p;rw[hp,Nat.mul_assoc,Nat.mul_comm p']
  show h*p+l / r<_
  omega
 have hW:W<18446744073709551616:=by
  have h1:(l%r)*p<r*p:=Nat.mul_lt_mul_of_pos_right hlm hpp
  rw[Nat.mul_comm r p,hpr] at h1
  exact h1
 have hq1:q1<4294967296:=by
  show U / V<_
  rw[Nat.div_lt_iff_lt_mul hV,Nat.mul_comm];exact hU
 have hT:T<V*4294967296:=by
  have h1:U%V<V:=Nat.mod_lt _ hV
  have h2:W / 4294967296<4294967296:=by rw[Nat.div_lt_iff_lt_mul (by decide)];exact hW
  exact Qd _ _ _ h1 h2
 have hq0:q0<4294967296:=by
  show T / V<_
  rw[Nat.div_lt_iff_lt_mul hV,Nat.mul_comm];exact hT
 have e1:(h*18446744073709551616+l)*p=U*18446744073709551616+W:=by
  have h1:r*(l / r)+l%r=l:=Nat.div_add_mod l r
  have:=WG h p r (l / r) (l%r) _ hpr
  rw[h1] at this
  exact this
 have e2:U=V*(U / V)+U%V:=(Nat.div_add_mod U V).symm
 have e3:T=V*(T / V)+T%V:=(Nat.div_add_mod T V).symm
 have e4:W=4294967296*(W / 4294967296)+W%4294967296:=(Nat.div_add_mod W _).symm
 have hyp:y*p=V*4294967296:=by show y*p=y*p'*4294967296;rw[hp,Nat.mul_assoc,Nat.mul_comm p']
 have key:(h*18446744073709551616+l)*p=(q1*4294967296+q0)*(y*p)+(T%V*4294967296+W%4294967296):=by
  rw[e1,hyp]
  have h1:V*(T / V)+T%V=U%V*4294967296+W / 4294967296:=e3.symm
  have:=Z9 V (U / V) (U%V) (T / V) (T%V) (W / 4294967296) (W%4294967296) h1
  rw[←e2,←e4] at this
  exact this
 have hR:T%V*4294967296+W%4294967296<y*p:=by
  have h1:T%V<V:=Nat.mod_lt _ hV
  rw[hyp]
  have h4:W%4294967296<4294967296:=Nat.mod_lt _ (by decide)
  exact Qd _ _ _ h1 h4
 have hyp0:0<y*p:=Nat.mul_pos hy hpp
 refine⟨hU,hq1,hq0,hT,hW,?_,?_⟩
 ·have:=congrArg (· / (y*p)) key
  simp only[Nat.mul_div_mul_right _ _ hpp] at this
  rw[this,Nat.add_comm (_*(y*p)),Nat.add_mul_div_right _ _ hyp0,Nat.div_eq_of_lt hR,Nat.zero_add]
 ·have:=congrArg (· % (y*p)) key
  simp only[Nat.mul_mod_mul_right] at this
  rw[Nat.add_comm (_*(y*p)),Nat.add_mul_mod_self_right,Nat.mod_eq_of_lt hR] at this
  rw[←this,Nat.mul_div_cancel _ hpp]
theorem XL (a p b:Nat) (k:Nat) (hp:p=2 ^ k) (hb:b<p) (h:a*p+b<18446744073709551616):aj .or .u64 ((a*p:Nat):Int) ((b:Nat):Int)=((a*p+b:Nat):Int):=by
 show IntKind.wrap .u64 ((BitVec.ofInt 64 ((a*p:Nat):Int) ||| BitVec.ofInt 64 ((b:Nat):Int)).toNat:Int)=_
 rw[wrap_u64,BitVec.ofInt_natCast,BitVec.ofInt_natCast,BitVec.toNat_or,BitVec.toNat_ofNat,BitVec.toNat_ofNat]
 rw[Nat.mod_eq_of_lt (show a*p<2 ^ 64 by omega),Nat.mod_eq_of_lt (show b<2 ^ 64 by omega)]
 have e:a*p ||| b=a*p+b:=by subst hp;rw[Nat.mul_comm,←Nat.two_pow_add_eq_or_of_lt hb]
 rw[e];omega
theorem OM (a s:Nat) (hs:s≤64) (h:a*2 ^ s<18446744073709551616):aj .shl .u64 (a:Int) (s:Int)=((a*2 ^ s:Nat):Int):=by
 rw[Iz (by omega) (by omega),Int.toNat_natCast,show(a:Int)*2 ^ s=((a*2 ^ s:Nat):Int) by push_cast;rfl,wrap_u64];omega
theorem XJ (l s L:Nat) (hs:s+L=64):aj .shl .u64 (l:Int) (s:Int)=(((l%2 ^ L)*2 ^ s:Nat):Int):=by
 rw[Iz (by omega) (by omega),Int.toNat_natCast,show(l:Int)*2 ^ s=((l*2 ^ s:Nat):Int) by push_cast;rfl,wrap_u64]
 have e:l*2 ^ s%18446744073709551616=(l%2 ^ L)*2 ^ s:=by
  have:18446744073709551616=2 ^ L*2 ^ s:=by rw[←Nat.pow_add,Nat.add_comm,hs]
  rw[this,Nat.mul_mod_mul_right]
 rw[←e];omega
theorem NC (l L:Nat) (h:L≤64):aj .shr .u64 (l:Int) (L:Int)=((l / 2 ^ L:Nat):Int):=by
 rw[XK _ _ h];push_cast;rfl
theorem Ee (a b:Nat) (h:a / b<18446744073709551616):aj .quo .u64 (a:Int) (b:Int)=((a / b:Nat):Int):=by
 rw[Kq _ (by omega),show(a:Int) / b=((a / b:Nat):Int) from(Int.natCast_ediv a b).symm,wrap_u64]
 generalize a / b=q at *
 omega
theorem NE (U V a:Nat) (h:U%V*4294967296+a<18446744073709551616):
  aj .sub .u64 (aj .add .u64 (aj .mul .u64 (U:Int) 4294967296) (a:Int)) (aj .mul .u64 ((U / V:Nat):Int) ((V*4294967296:Nat):Int))=((U%V*4294967296+a:Nat):Int):=by
 simp only[eY,dX,kP,wrap_u64]
 have e:((U / V:Nat):Int)*((V*4294967296:Nat):Int)=((V*(U / V):Nat):Int)*4294967296:=by
  rw[←Int.natCast_mul,Nat.mul_left_comm,←Nat.mul_assoc,Int.natCast_mul];rfl
 have h2:=Nat.div_add_mod U V
 rw[e]
 generalize V*(U / V)=m at *
 generalize U%V=n at *
 omega
theorem YA (W:Nat) (h:W<18446744073709551616):aj .and .u64 (W:Int) 4294967295=((W%4294967296:Nat):Int):=by
 have:=mO (x:=(W:Int)) 32 (by decide) (by omega) (by omega)
 rw[show(2:Int) ^ 32 - 1=4294967295 from rfl] at this
 rw[this];omega
variable [gB]
theorem Vt (h:Int) (l:Int) (y:Int):cu Try.prog (X2) 100000 [.d false, .d false, .d true] 91 [D.v (Value.int .u64 h),D.v (Value.int .u64 l),D.v (Value.int .u64 y)]=some (D.bF
 [D.v (Value.int .u64 (aj .quo .u64 l y)),
  D.v (Value.int .u64 (aj .rem .u64 l y))],[decide (y=0)=false,
 decide (y=0)=false,
 ai .eql h 0=true,
 ai .leq y h=false,
 ai .eql y 0=false]):=by kernel_rfl
theorem KN (h:Int) (l:Int) (y:Int) (res:D)
 (e0:(ai .eql y 0)=false)
 (e1:(ai .leq y h)=false)
 (e2:(ai .eql h 0)=true)
 (h0:((decide (y=0)=false)∧(decide (y=0)=false)∧True)∧res=D.bF
 [D.v (Value.int .u64 (aj .quo .u64 l y)),
  D.v (Value.int .u64 (aj .rem .u64 l y))]):
 CallsD Try.prog 91 [D.v (Value.int .u64 h),D.v (Value.int .u64 l),D.v (Value.int .u64 y)] res:=by
 exact aV (hX2) (Vt h l y) ⟨(h0).1.1,(h0).1.2.1,e2,e1,e0,trivial⟩ (h0).2
theorem Uz (h:Int) (l:Int) (y:Int):cu Try.prog (X2) 100000 [.d false, .d false, .d false,PE.u, .d false, .c 6, .d false,PE.u, .d false, .c 6, .d false] 91 [D.v (Value.int .u64 h),D.v (Value.int .u64 l),D.v (Value.int .u64 y)]=some (D.bF
 [D.v
   (Value.int .u64
    (aj .add .u64
     (aj .mul .u64
      (aj .quo .u64
       (aj .or .u64 (aj .shl .u64 h (IntKind.u64.wrap (64 - ↑(aK y.toNat))))
        (aj .shr .u64 l (aj .sub .u64 64 (IntKind.u64.wrap (64 - ↑(aK y.toNat))))))
       (aj .shr .u64 (aj .shl .u64 y (IntKind.u64.wrap (64 - ↑(aK y.toNat)))) 32))
      4294967296)
     (aj .quo .u64
      (aj .sub .u64
       (aj .add .u64
        (aj .mul .u64
         (aj .or .u64 (aj .shl .u64 h (IntKind.u64.wrap (64 - ↑(aK y.toNat))))
          (aj .shr .u64 l
           (aj .sub .u64 64 (IntKind.u64.wrap (64 - ↑(aK y.toNat))))))
         4294967296)
        (aj .shr .u64 (aj .shl .u64 l (IntKind.u64.wrap (64 - ↑(aK y.toNat)))) 32))
       (aj .mul .u64
        (aj .quo .u64
         (aj .or .u64 (aj .shl .u64 h (IntKind.u64.wrap (64 - ↑(aK y.toNat))))
          (aj .shr .u64 l
           (aj .sub .u64 64 (IntKind.u64.wrap (64 - ↑(aK y.toNat))))))
         (aj .shr .u64 (aj .shl .u64 y (IntKind.u64.wrap (64 - ↑(aK y.toNat))))
          32))
        (aj .shl .u64 y (IntKind.u64.wrap (64 - ↑(aK y.toNat))))))
      (aj .shr .u64 (aj .shl .u64 y (IntKind.u64.wrap (64 - ↑(aK y.toNat)))) 32)))),
  D.v
   (Value.int .u64
    (aj .shr .u64
     (aj .sub .u64
      (aj .add .u64
       (aj .mul .u64
        (aj .sub .u64
         (aj .add .u64
          (aj .mul .u64
           (aj .or .u64 (aj .shl .u64 h (IntKind.u64.wrap (64 - ↑(aK y.toNat))))
            (aj .shr .u64 l
             (aj .sub .u64 64 (IntKind.u64.wrap (64 - ↑(aK y.toNat))))))
           4294967296)
          (aj .shr .u64 (aj .shl .u64 l (IntKind.u64.wrap (64 - ↑(aK y.toNat))))
           32))
         (aj .mul .u64
          (aj .quo .u64
           (aj .or .u64 (aj .shl .u64 h (IntKind.u64.wrap (64 - ↑(aK y.toNat))))
            (aj .shr .u64 l
             (aj .sub .u64 64 (IntKind.u64.wrap (64 - ↑(aK y.toNat))))))
           (aj .shr .u64 (aj .shl .u64 y (IntKind.u64.wrap (64 - ↑(aK y.toNat))))
            32))
          (aj .shl .u64 y (IntKind.u64.wrap (64 - ↑(aK y.toNat))))))
        4294967296)
       (aj .and .u64 (aj .shl .u64 l (IntKind.u64.wrap (64 - ↑(aK y.toNat))))
        4294967295))
      (aj .mul .u64
       (aj .quo .u64
        (aj .sub .u64
         (aj .add .u64
          (aj .mul .u64
           (aj .or .u64 (aj .shl .u64 h (IntKind.u64.wrap (64 - ↑(aK y.toNat))))
            (aj .shr .u64 l
             (aj .sub .u64 64 (IntKind.u64.wrap (64 - ↑(aK y.toNat))))))
           4294967296)
          (aj .shr .u64 (aj .shl .u64 l (IntKind.u64.wrap (64 - ↑(aK y.toNat))))
           32))
         (aj .mul .u64
          (aj .quo .u64
           (aj .or .u64 (aj .shl .u64 h (IntKind.u64.wrap (64 - ↑(aK y.toNat))))
            (aj .shr .u64 l
             (aj .sub .u64 64 (IntKind.u64.wrap (64 - ↑(aK y.toNat))))))
           (aj .shr .u64 (aj .shl .u64 y (IntKind.u64.wrap (64 - ↑(aK y.toNat))))
            32))
          (aj .shl .u64 y (IntKind.u64.wrap (64 - ↑(aK y.toNat))))))
        (aj .shr .u64 (aj .shl .u64 y (IntKind.u64.wrap (64 - ↑(aK y.toNat)))) 32))
       (aj .shl .u64 y (IntKind.u64.wrap (64 - ↑(aK y.toNat))))))
     (IntKind.u64.wrap (64 - ↑(aK y.toNat)))))],[decide (0≤IntKind.u64.wrap (64 - ↑(aK y.toNat)))=true,
 ai .gtr
  (aj .mul .u64
   (aj .quo .u64
    (aj .sub .u64
     (aj .add .u64
      (aj .mul .u64
       (aj .or .u64 (aj .shl .u64 h (IntKind.u64.wrap (64 - ↑(aK y.toNat))))
        (aj .shr .u64 l (aj .sub .u64 64 (IntKind.u64.wrap (64 - ↑(aK y.toNat))))))
       4294967296)
      (aj .shr .u64 (aj .shl .u64 l (IntKind.u64.wrap (64 - ↑(aK y.toNat)))) 32))
     (aj .mul .u64
      (aj .quo .u64
       (aj .or .u64 (aj .shl .u64 h (IntKind.u64.wrap (64 - ↑(aK y.toNat))))
        (aj .shr .u64 l (aj .sub .u64 64 (IntKind.u64.wrap (64 - ↑(aK y.toNat))))))
       (aj .shr .u64 (aj .shl .u64 y (IntKind.u64.wrap (64 - ↑(aK y.toNat)))) 32))
      (aj .shl .u64 y (IntKind.u64.wrap (64 - ↑(aK y.toNat))))))
    (aj .shr .u64 (aj .shl .u64 y (IntKind.u64.wrap (64 - ↑(aK y.toNat)))) 32))
   (aj .and .u64 (aj .shl .u64 y (IntKind.u64.wrap (64 - ↑(aK y.toNat)))) 4294967295))
  (aj .add .u64
   (aj .mul .u64 4294967296
    (aj .sub .u64
     (aj .sub .u64
      (aj .add .u64
       (aj .mul .u64
        (aj .or .u64 (aj .shl .u64 h (IntKind.u64.wrap (64 - ↑(aK y.toNat))))
         (aj .shr .u64 l
          (aj .sub .u64 64 (IntKind.u64.wrap (64 - ↑(aK y.toNat))))))
        4294967296)
       (aj .shr .u64 (aj .shl .u64 l (IntKind.u64.wrap (64 - ↑(aK y.toNat)))) 32))
      (aj .mul .u64
       (aj .quo .u64
        (aj .or .u64 (aj .shl .u64 h (IntKind.u64.wrap (64 - ↑(aK y.toNat))))
         (aj .shr .u64 l
          (aj .sub .u64 64 (IntKind.u64.wrap (64 - ↑(aK y.toNat))))))
        (aj .shr .u64 (aj .shl .u64 y (IntKind.u64.wrap (64 - ↑(aK y.toNat)))) 32))
       (aj .shl .u64 y (IntKind.u64.wrap (64 - ↑(aK y.toNat))))))
     (aj .mul .u64
      (aj .quo .u64
       (aj .sub .u64
        (aj .add .u64
         (aj .mul .u64
          (aj .or .u64 (aj .shl .u64 h (IntKind.u64.wrap (64 - ↑(aK y.toNat))))
           (aj .shr .u64 l
            (aj .sub .u64 64 (IntKind.u64.wrap (64 - ↑(aK y.toNat))))))
          4294967296)
         (aj .shr .u64 (aj .shl .u64 l (IntKind.u64.wrap (64 - ↑(aK y.toNat))))
          32))
        (aj .mul .u64
         (aj .quo .u64
          (aj .or .u64 (aj .shl .u64 h (IntKind.u64.wrap (64 - ↑(aK y.toNat))))
           (aj .shr .u64 l
            (aj .sub .u64 64 (IntKind.u64.wrap (64 - ↑(aK y.toNat))))))
          (aj .shr .u64 (aj .shl .u64 y (IntKind.u64.wrap (64 - ↑(aK y.toNat))))
           32))
         (aj .shl .u64 y (IntKind.u64.wrap (64 - ↑(aK y.toNat))))))
       (aj .shr .u64 (aj .shl .u64 y (IntKind.u64.wrap (64 - ↑(aK y.toNat)))) 32))
      (aj .shr .u64 (aj .shl .u64 y (IntKind.u64.wrap (64 - ↑(aK y.toNat)))) 32))))
   (aj .and .u64 (aj .shl .u64 l (IntKind.u64.wrap (64 - ↑(aK y.toNat)))) 4294967295)) =
 false,
 ai .geq
  (aj .quo .u64
   (aj .sub .u64
    (aj .add .u64
     (aj .mul .u64
      (aj .or .u64 (aj .shl .u64 h (IntKind.u64.wrap (64 - ↑(aK y.toNat))))
       (aj .shr .u64 l (aj .sub .u64 64 (IntKind.u64.wrap (64 - ↑(aK y.toNat))))))
      4294967296)
     (aj .shr .u64 (aj .shl .u64 l (IntKind.u64.wrap (64 - ↑(aK y.toNat)))) 32))
    (aj .mul .u64
     (aj .quo .u64
      (aj .or .u64 (aj .shl .u64 h (IntKind.u64.wrap (64 - ↑(aK y.toNat))))
       (aj .shr .u64 l (aj .sub .u64 64 (IntKind.u64.wrap (64 - ↑(aK y.toNat))))))
      (aj .shr .u64 (aj .shl .u64 y (IntKind.u64.wrap (64 - ↑(aK y.toNat)))) 32))
     (aj .shl .u64 y (IntKind.u64.wrap (64 - ↑(aK y.toNat))))))
   (aj .shr .u64 (aj .shl .u64 y (IntKind.u64.wrap (64 - ↑(aK y.toNat)))) 32))
  4294967296 =
 false,
 decide (aj .shr .u64 (aj .shl .u64 y (IntKind.u64.wrap (64 - ↑(aK y.toNat)))) 32=0) =
 false,
 ai .gtr
  (aj .mul .u64
   (aj .quo .u64
    (aj .or .u64 (aj .shl .u64 h (IntKind.u64.wrap (64 - ↑(aK y.toNat))))
     (aj .shr .u64 l (aj .sub .u64 64 (IntKind.u64.wrap (64 - ↑(aK y.toNat))))))
    (aj .shr .u64 (aj .shl .u64 y (IntKind.u64.wrap (64 - ↑(aK y.toNat)))) 32))
   (aj .and .u64 (aj .shl .u64 y (IntKind.u64.wrap (64 - ↑(aK y.toNat)))) 4294967295))
  (aj .add .u64
   (aj .mul .u64 4294967296
    (aj .sub .u64
     (aj .or .u64 (aj .shl .u64 h (IntKind.u64.wrap (64 - ↑(aK y.toNat))))
      (aj .shr .u64 l (aj .sub .u64 64 (IntKind.u64.wrap (64 - ↑(aK y.toNat))))))
     (aj .mul .u64
      (aj .quo .u64
       (aj .or .u64 (aj .shl .u64 h (IntKind.u64.wrap (64 - ↑(aK y.toNat))))
        (aj .shr .u64 l (aj .sub .u64 64 (IntKind.u64.wrap (64 - ↑(aK y.toNat))))))
       (aj .shr .u64 (aj .shl .u64 y (IntKind.u64.wrap (64 - ↑(aK y.toNat)))) 32))
      (aj .shr .u64 (aj .shl .u64 y (IntKind.u64.wrap (64 - ↑(aK y.toNat)))) 32))))
   (aj .shr .u64 (aj .shl .u64 l (IntKind.u64.wrap (64 - ↑(aK y.toNat)))) 32)) =
 false,
 ai .geq
  (aj .quo .u64
   (aj .or .u64 (aj .shl .u64 h (IntKind.u64.wrap (64 - ↑(aK y.toNat))))
    (aj .shr .u64 l (aj .sub .u64 64 (IntKind.u64.wrap (64 - ↑(aK y.toNat))))))
   (aj .shr .u64 (aj .shl .u64 y (IntKind.u64.wrap (64 - ↑(aK y.toNat)))) 32))
  4294967296 =
 false,
 decide (aj .shr .u64 (aj .shl .u64 y (IntKind.u64.wrap (64 - ↑(aK y.toNat)))) 32=0) =
 false,
 true=true,
 decide (0≤IntKind.u64.wrap (64 - ↑(aK y.toNat)))=true,
 decide (0≤aj .sub .u64 64 (IntKind.u64.wrap (64 - ↑(aK y.toNat))))=true,
 decide (0≤IntKind.u64.wrap (64 - ↑(aK y.toNat)))=true,
 true=true,
 decide (0≤IntKind.u64.wrap (64 - ↑(aK y.toNat)))=true,
 0≤y,
 y<18446744073709551616,
 ai .eql h 0=false,
 ai .leq y h=false,
 ai .eql y 0=false]):=by kernel_rfl
theorem JG (h:Int) (l:Int) (y:Int) (res:D)
 (e0:(ai .eql y 0)=false)
 (e1:(ai .leq y h)=false)
 (e2:(ai .eql h 0)=false)
 (e3:(ai .geq
 (aj .quo .u64
  (aj .or .u64 (aj .shl .u64 h (IntKind.u64.wrap (64 - ↑(aK y.toNat))))
   (aj .shr .u64 l (aj .sub .u64 64 (IntKind.u64.wrap (64 - ↑(aK y.toNat))))))
  (aj .shr .u64 (aj .shl .u64 y (IntKind.u64.wrap (64 - ↑(aK y.toNat)))) 32))
 4294967296)=false)
 (e4:(ai .gtr
 (aj .mul .u64
  (aj .quo .u64
   (aj .or .u64 (aj .shl .u64 h (IntKind.u64.wrap (64 - ↑(aK y.toNat))))
    (aj .shr .u64 l (aj .sub .u64 64 (IntKind.u64.wrap (64 - ↑(aK y.toNat))))))
   (aj .shr .u64 (aj .shl .u64 y (IntKind.u64.wrap (64 - ↑(aK y.toNat)))) 32))
  (aj .and .u64 (aj .shl .u64 y (IntKind.u64.wrap (64 - ↑(aK y.toNat)))) 4294967295))
 (aj .add .u64
  (aj .mul .u64 4294967296
   (aj .sub .u64
    (aj .or .u64 (aj .shl .u64 h (IntKind.u64.wrap (64 - ↑(aK y.toNat))))
     (aj .shr .u64 l (aj .sub .u64 64 (IntKind.u64.wrap (64 - ↑(aK y.toNat))))))
    (aj .mul .u64
     (aj .quo .u64
      (aj .or .u64 (aj .shl .u64 h (IntKind.u64.wrap (64 - ↑(aK y.toNat))))
       (aj .shr .u64 l (aj .sub .u64 64 (IntKind.u64.wrap (64 - ↑(aK y.toNat))))))
      (aj .shr .u64 (aj .shl .u64 y (IntKind.u64.wrap (64 - ↑(aK y.toNat)))) 32))
     (aj .shr .u64 (aj .shl .u64 y (IntKind.u64.wrap (64 - ↑(aK y.toNat)))) 32))))
  (aj .shr .u64 (aj .shl .u64 l (IntKind.u64.wrap (64 - ↑(aK y.toNat)))) 32)))=false)
 (e5:(ai .geq
 (aj .quo .u64
  (aj .sub .u64
   (aj .add .u64
    (aj .mul .u64
     (aj .or .u64 (aj .shl .u64 h (IntKind.u64.wrap (64 - ↑(aK y.toNat))))
      (aj .shr .u64 l (aj .sub .u64 64 (IntKind.u64.wrap (64 - ↑(aK y.toNat))))))
     4294967296)
    (aj .shr .u64 (aj .shl .u64 l (IntKind.u64.wrap (64 - ↑(aK y.toNat)))) 32))
   (aj .mul .u64
    (aj .quo .u64
     (aj .or .u64 (aj .shl .u64 h (IntKind.u64.wrap (64 - ↑(aK y.toNat))))
      (aj .shr .u64 l (aj .sub .u64 64 (IntKind.u64.wrap (64 - ↑(aK y.toNat))))))
     (aj .shr .u64 (aj .shl .u64 y (IntKind.u64.wrap (64 - ↑(aK y.toNat)))) 32))
    (aj .shl .u64 y (IntKind.u64.wrap (64 - ↑(aK y.toNat))))))
  (aj .shr .u64 (aj .shl .u64 y (IntKind.u64.wrap (64 - ↑(aK y.toNat)))) 32))
 4294967296)=false)
 (e6:(ai .gtr
 (aj .mul .u64
  (aj .quo .u64
   (aj .sub .u64
    (aj .add .u64
     (aj .mul .u64
      (aj .or .u64 (aj .shl .u64 h (IntKind.u64.wrap (64 - ↑(aK y.toNat))))
       (aj .shr .u64 l (aj .sub .u64 64 (IntKind.u64.wrap (64 - ↑(aK y.toNat))))))
      4294967296)
     (aj .shr .u64 (aj .shl .u64 l (IntKind.u64.wrap (64 - ↑(aK y.toNat)))) 32))
    (aj .mul .u64
     (aj .quo .u64
      (aj .or .u64 (aj .shl .u64 h (IntKind.u64.wrap (64 - ↑(aK y.toNat))))
       (aj .shr .u64 l (aj .sub .u64 64 (IntKind.u64.wrap (64 - ↑(aK y.toNat))))))
      (aj .shr .u64 (aj .shl .u64 y (IntKind.u64.wrap (64 - ↑(aK y.toNat)))) 32))
     (aj .shl .u64 y (IntKind.u64.wrap (64 - ↑(aK y.toNat))))))
   (aj .shr .u64 (aj .shl .u64 y (IntKind.u64.wrap (64 - ↑(aK y.toNat)))) 32))
  (aj .and .u64 (aj .shl .u64 y (IntKind.u64.wrap (64 - ↑(aK y.toNat)))) 4294967295))
 (aj .add .u64
  (aj .mul .u64 4294967296
   (aj .sub .u64
    (aj .sub .u64
     (aj .add .u64
      (aj .mul .u64
       (aj .or .u64 (aj .shl .u64 h (IntKind.u64.wrap (64 - ↑(aK y.toNat))))
        (aj .shr .u64 l (aj .sub .u64 64 (IntKind.u64.wrap (64 - ↑(aK y.toNat))))))
       4294967296)
      (aj .shr .u64 (aj .shl .u64 l (IntKind.u64.wrap (64 - ↑(aK y.toNat)))) 32))
     (aj .mul .u64
      (aj .quo .u64
       (aj .or .u64 (aj .shl .u64 h (IntKind.u64.wrap (64 - ↑(aK y.toNat))))
        (aj .shr .u64 l (aj .sub .u64 64 (IntKind.u64.wrap (64 - ↑(aK y.toNat))))))
       (aj .shr .u64 (aj .shl .u64 y (IntKind.u64.wrap (64 - ↑(aK y.toNat)))) 32))
      (aj .shl .u64 y (IntKind.u64.wrap (64 - ↑(aK y.toNat))))))
    (aj .mul .u64
     (aj .quo .u64
      (aj .sub .u64
       (aj .add .u64
        (aj .mul .u64
         (aj .or .u64 (aj .shl .u64 h (IntKind.u64.wrap (64 - ↑(aK y.toNat))))
          (aj .shr .u64 l
           (aj .sub .u64 64 (IntKind.u64.wrap (64 - ↑(aK y.toNat))))))
         4294967296)
        (aj .shr .u64 (aj .shl .u64 l (IntKind.u64.wrap (64 - ↑(aK y.toNat)))) 32))
       (aj .mul .u64
        (aj .quo .u64
         (aj .or .u64 (aj .shl .u64 h (IntKind.u64.wrap (64 - ↑(aK y.toNat))))
          (aj .shr .u64 l
           (aj .sub .u64 64 (IntKind.u64.wrap (64 - ↑(aK y.toNat))))))
         (aj .shr .u64 (aj .shl .u64 y (IntKind.u64.wrap (64 - ↑(aK y.toNat))))
          32))
        (aj .shl .u64 y (IntKind.u64.wrap (64 - ↑(aK y.toNat))))))
      (aj .shr .u64 (aj .shl .u64 y (IntKind.u64.wrap (64 - ↑(aK y.toNat)))) 32))
     (aj .shr .u64 (aj .shl .u64 y (IntKind.u64.wrap (64 - ↑(aK y.toNat)))) 32))))
  (aj .and .u64 (aj .shl .u64 l (IntKind.u64.wrap (64 - ↑(aK y.toNat)))) 4294967295)))=false)
 (h0:((decide (0≤IntKind.u64.wrap (64 - ↑(aK y.toNat)))=true)∧(decide (aj .shr .u64 (aj .shl .u64 y (IntKind.u64.wrap (64 - ↑(aK y.toNat)))) 32=0) =
 false)∧(decide (aj .shr .u64 (aj .shl .u64 y (IntKind.u64.wrap (64 - ↑(aK y.toNat)))) 32=0) =
 false)∧(decide (0≤IntKind.u64.wrap (64 - ↑(aK y.toNat)))=true)∧(decide (0≤aj .sub .u64 64 (IntKind.u64.wrap (64 - ↑(aK y.toNat))))=true)∧(decide (0≤IntKind.u64.wrap (64 - ↑(aK y.toNat)))=true)∧(decide (0≤IntKind.u64.wrap (64 - ↑(aK y.toNat)))=true)∧(0≤y)∧(y<18446744073709551616)∧True)∧res=D.bF
 [D.v
   (Value.int .u64
    (aj .add .u64
     (aj .mul .u64
      (aj .quo .u64
       (aj .or .u64 (aj .shl .u64 h (IntKind.u64.wrap (64 - ↑(aK y.toNat))))
        (aj .shr .u64 l (aj .sub .u64 64 (IntKind.u64.wrap (64 - ↑(aK y.toNat))))))
       (aj .shr .u64 (aj .shl .u64 y (IntKind.u64.wrap (64 - ↑(aK y.toNat)))) 32))
      4294967296)
     (aj .quo .u64
      (aj .sub .u64
       (aj .add .u64
        (aj .mul .u64
         (aj .or .u64 (aj .shl .u64 h (IntKind.u64.wrap (64 - ↑(aK y.toNat))))
          (aj .shr .u64 l
           (aj .sub .u64 64 (IntKind.u64.wrap (64 - ↑(aK y.toNat))))))
         4294967296)
        (aj .shr .u64 (aj .shl .u64 l (IntKind.u64.wrap (64 - ↑(aK y.toNat)))) 32))
       (aj .mul .u64
        (aj .quo .u64
         (aj .or .u64 (aj .shl .u64 h (IntKind.u64.wrap (64 - ↑(aK y.toNat))))
          (aj .shr .u64 l
           (aj .sub .u64 64 (IntKind.u64.wrap (64 - ↑(aK y.toNat))))))
         (aj .shr .u64 (aj .shl .u64 y (IntKind.u64.wrap (64 - ↑(aK y.toNat))))
          32))
        (aj .shl .u64 y (IntKind.u64.wrap (64 - ↑(aK y.toNat))))))
      (aj .shr .u64 (aj .shl .u64 y (IntKind.u64.wrap (64 - ↑(aK y.toNat)))) 32)))),
  D.v
   (Value.int .u64
    (aj .shr .u64
     (aj .sub .u64
      (aj .add .u64
       (aj .mul .u64
        (aj .sub .u64
         (aj .add .u64
          (aj .mul .u64
           (aj .or .u64 (aj .shl .u64 h (IntKind.u64.wrap (64 - ↑(aK y.toNat))))
            (aj .shr .u64 l
             (aj .sub .u64 64 (IntKind.u64.wrap (64 - ↑(aK y.toNat))))))
           4294967296)
          (aj .shr .u64 (aj .shl .u64 l (IntKind.u64.wrap (64 - ↑(aK y.toNat))))
           32))
         (aj .mul .u64
          (aj .quo .u64
           (aj .or .u64 (aj .shl .u64 h (IntKind.u64.wrap (64 - ↑(aK y.toNat))))
            (aj .shr .u64 l
             (aj .sub .u64 64 (IntKind.u64.wrap (64 - ↑(aK y.toNat))))))
           (aj .shr .u64 (aj .shl .u64 y (IntKind.u64.wrap (64 - ↑(aK y.toNat))))
            32))
          (aj .shl .u64 y (IntKind.u64.wrap (64 - ↑(aK y.toNat))))))
        4294967296)
       (aj .and .u64 (aj .shl .u64 l (IntKind.u64.wrap (64 - ↑(aK y.toNat))))
        4294967295))
      (aj .mul .u64
       (aj .quo .u64
        (aj .sub .u64
         (aj .add .u64
          (aj .mul .u64
           (aj .or .u64 (aj .shl .u64 h (IntKind.u64.wrap (64 - ↑(aK y.toNat))))
            (aj .shr .u64 l
             (aj .sub .u64 64 (IntKind.u64.wrap (64 - ↑(aK y.toNat))))))
           4294967296)
          (aj .shr .u64 (aj .shl .u64 l (IntKind.u64.wrap (64 - ↑(aK y.toNat))))
           32))
         (aj .mul .u64
          (aj .quo .u64
           (aj .or .u64 (aj .shl .u64 h (IntKind.u64.wrap (64 - ↑(aK y.toNat))))
            (aj .shr .u64 l
             (aj .sub .u64 64 (IntKind.u64.wrap (64 - ↑(aK y.toNat))))))
           (aj .shr .u64 (aj .shl .u64 y (IntKind.u64.wrap (64 - ↑(aK y.toNat))))
            32))
          (aj .shl .u64 y (IntKind.u64.wrap (64 - ↑(aK y.toNat))))))
        (aj .shr .u64 (aj .shl .u64 y (IntKind.u64.wrap (64 - ↑(aK y.toNat)))) 32))
       (aj .shl .u64 y (IntKind.u64.wrap (64 - ↑(aK y.toNat))))))
     (IntKind.u64.wrap (64 - ↑(aK y.toNat)))))]):
 CallsD Try.prog 91 [D.v (Value.int .u64 h),D.v (Value.int .u64 l),D.v (Value.int .u64 y)] res:=by
 exact aV (hX2) (Uz h l y) ⟨(h0).1.1,e6,e5,(h0).1.2.1,e4,e3,(h0).1.2.2.1,rfl,(h0).1.2.2.2.1,(h0).1.2.2.2.2.1,(h0).1.2.2.2.2.2.1,rfl,(h0).1.2.2.2.2.2.2.1,(h0).1.2.2.2.2.2.2.2.1,(h0).1.2.2.2.2.2.2.2.2.1,e2,e1,e0,trivial⟩ (h0).2
theorem Uk (l y:Nat) (hy:0<y) (hl:l<18446744073709551616):CallsD Try.prog 91 [u64 0,u64 l,u64 y] (.bF [u64 ((l / y:Nat):Int),u64 ((l%y:Nat):Int)]):=by
 refine KN 0 l y _ ?_ ?_ ?_ ⟨⟨?_,?_,trivial⟩,?_⟩
 ·rw[je];omega
 ·rw[SI];omega
 ·rw[iM]
 ·rw[decide_eq_false_iff_not];omega
 ·rw[decide_eq_false_iff_not];omega
 ·have:=Nat.div_le_self l y
  rw[Ee _ _ (by omega),CG _ (by omega)];push_cast;rfl
set_option maxHeartbeats 4000000 in
theorem VL (h l y:Nat) (hy:y<4294967296) (hh:h<y) (h0:0<h) (hl:l<18446744073709551616):CallsD Try.prog 91 [u64 h,u64 l,u64 y] (.bF [u64 (((h*18446744073709551616+l) / y:Nat):Int),u64 (((h*18446744073709551616+l)%y:Nat):Int)]):=by
 obtain⟨b1,b2,b3⟩:=N7 y (by omega)
 have b4:=Cc y 32 hy
 generalize hL:aK y=L at *
 have hpr:2 ^ (64 - L)*2 ^ L=18446744073709551616:=by rw[←Nat.pow_add,show 64 - L+L=64 by omega]
 have hp:2 ^ (64 - L)=4294967296*2 ^ (32 - L):=by rw[show 64 - L=32+(32 - L) by omega,Nat.pow_add]
 have hp0:0<2 ^ (32 - L):=Nat.two_pow_pos _
 obtain⟨hU,hq1,hq0,hT,hW,r1,r2⟩:=WT y h l _ _ _ hpr hp (by omega) hh hl hp0
 have hyV:y*2 ^ (64 - L)=y*2 ^ (32 - L)*4294967296:=by rw[hp,Nat.mul_assoc,Nat.mul_comm 4294967296]
 have hVlt:y*2 ^ (64 - L)<18446744073709551616:=by
  rw[←hpr,Nat.mul_comm];exact Nat.mul_lt_mul_of_pos_left b2 (Nat.two_pow_pos _)
 have hhp:h*2 ^ (64 - L)+l / 2 ^ L<18446744073709551616:=Nat.lt_trans hU (hyV▸hVlt)
 have hlr:l / 2 ^ L<2 ^ (64 - L):=by rw[Nat.div_lt_iff_lt_mul (Nat.two_pow_pos _),hpr];exact hl
 have sE:IntKind.wrap .u64 (64 - ((aK ((y:Int).toNat):Nat):Int))=((64 - L:Nat):Int):=by
  rw[Int.toNat_natCast,hL,wrap_u64];omega
 have eh:aj .shl .u64 (h:Int) ((64 - L:Nat):Int)=((h*2 ^ (64 - L):Nat):Int):=OM _ _ (by omega) (Nat.lt_of_le_of_lt (Nat.le_add_right _ _) hhp)
 have ey:aj .shl .u64 (y:Int) ((64 - L:Nat):Int)=((y*2 ^ (32 - L)*4294967296:Nat):Int):=by rw[←hyV];exact OM _ _ (by omega) hVlt
 have el:aj .shl .u64 (l:Int) ((64 - L:Nat):Int)=((l%2 ^ L*2 ^ (64 - L):Nat):Int):=XJ _ _ _ (by omega)
 have es:aj .sub .u64 64 ((64 - L:Nat):Int)=(L:Int):=by rw[eY,wrap_u64];omega
 have er:aj .shr .u64 (l:Int) (L:Int)=((l / 2 ^ L:Nat):Int):=NC _ _ (by omega)
 have eo:=XL h (2 ^ (64 - L)) (l / 2 ^ L) (64 - L) rfl hlr hhp
 obtain⟨U,hUe⟩:∃ U,h*2 ^ (64 - L)+l / 2 ^ L=U:=⟨_,rfl⟩
 rw[hUe] at hU hq1 hq0 hT r1 r2 eo
 obtain⟨W,hWe⟩:∃ W,l%2 ^ L*2 ^ (64 - L)=W:=⟨_,rfl⟩
 rw[hWe] at hq0 hT hW r1 r2 el
 have hVpos:0<y*2 ^ (32 - L):=Nat.mul_pos (by omega) hp0
 rw[hyV] at hVlt
 obtain⟨V,hVe⟩:∃ V,y*2 ^ (32 - L)=V:=⟨_,rfl⟩
 rw[hVe] at hU hq1 hq0 hT r1 r2 ey hVpos hVlt
 have en:aj .shr .u64 ((V*4294967296:Nat):Int) 32=(V:Int):=by rw[zX];omega
 have eq1:aj .quo .u64 (U:Int) (V:Int)=((U / V:Nat):Int):=Ee _ _ (Nat.lt_trans hq1 (by decide))
 have ew:aj .shr .u64 (W:Int) 32=((W / 4294967296:Nat):Int):=by rw[zX];omega
 have em:aj .and .u64 (W:Int) 4294967295=((W%4294967296:Nat):Int):=YA W hW
 have et:=NE U V (W / 4294967296) (Nat.lt_trans hT hVlt)
 have ez:aj .and .u64 ((V*4294967296:Nat):Int) 4294967295=0:=by rw[YA _ hVlt,Nat.mul_mod_left];rfl
 obtain⟨T,hTe⟩:∃ T,U%V*4294967296+W / 4294967296=T:=⟨_,rfl⟩
 rw[hTe] at hq0 hT r1 r2 et
 have eq0:aj .quo .u64 (T:Int) (V:Int)=((T / V:Nat):Int):=Ee _ _ (Nat.lt_trans hq0 (by decide))
 have hTV:T%V<V:=Nat.mod_lt _ hVpos
 have hWm:W%4294967296<4294967296:=Nat.mod_lt _ (by decide)
 have eR:=NE T V (W%4294967296) (Nat.lt_trans (Qd _ _ _ hTV hWm) hVlt)
 have ef:aj .add .u64 (aj .mul .u64 ((U / V:Nat):Int) 4294967296) ((T / V:Nat):Int)=((U / V*4294967296+T / V:Nat):Int):=by
  simp only[dX,kP,wrap_u64]
  clear r1 r2 eq1 eq0 et eR
  revert hq1 hq0
  generalize U / V=m
  generalize T / V=n
  intros
  omega
 have eg:aj .shr .u64 ((T%V*4294967296+W%4294967296:Nat):Int) ((64 - L:Nat):Int)=(((T%V*4294967296+W%4294967296) / 2 ^ (64 - L):Nat):Int):=NC _ _ (by omega)
 rw[r1] at ef
 rw[r2] at eg
 have mz:∀ a:Nat,aj .mul .u64 (a:Int) 0=0:=fun a=>by rw[kP,Int.mul_zero];rfl
 refine JG h l y _ ?_ ?_ ?_ ?_ ?_ ?_ ?_ ?_
 ·rw[je];omega
 ·rw[SI];omega
 ·rw[je];omega
 all_goals simp only[sE,eh,ey,el,es,er,eo,en,eq1,ew,em,et,ez,eq0,eR,ef,eg,mz,iP,gI,decide_eq_true_eq,decide_eq_false_iff_not]
 ·exact Int.ofNat_lt.2 hq1
 ·rw[dX,wrap_u64];exact Int.emod_nonneg _ (by decide)
 ·exact Int.ofNat_lt.2 hq0
 ·rw[dX,wrap_u64];exact Int.emod_nonneg _ (by decide)
 ·have hv:((V:Nat):Int)≠0:=Int.ofNat_ne_zero.2 (Nat.ne_of_gt hVpos)
  exact⟨⟨Int.natCast_nonneg _,hv,hv,Int.natCast_nonneg _,Int.natCast_nonneg _,Int.natCast_nonneg _,Int.natCast_nonneg _,Int.natCast_nonneg _,Int.ofNat_lt.2 (Nat.lt_trans hy (by decide)),trivial⟩,trivial⟩
theorem Yg (h l y:Int) (h0:0≤h) (hh:h<y) (hy:y<4294967296) (l0:0≤l) (l1:l<18446744073709551616):
  CallsD Try.prog 91 [u64 h,u64 l,u64 y] (.bF [u64 ((h*18446744073709551616+l) / y),u64 ((h*18446744073709551616+l)%y)]):=by
 obtain⟨h,rfl⟩:=Int.eq_ofNat_of_zero_le h0
 obtain⟨l,rfl⟩:=Int.eq_ofNat_of_zero_le l0
 obtain⟨y,rfl⟩:=Int.eq_ofNat_of_zero_le (show 0≤y by omega)
 have e:((h:Int)*18446744073709551616+l)=((h*18446744073709551616+l:Nat):Int):=by omega
 rw[e]
 rcases Nat.eq_zero_or_pos h with rfl | hp
 ·rw[Nat.zero_mul,Nat.zero_add]
  have:=Uk l y (by omega) (by omega)
  rw[Int.natCast_ediv,Int.natCast_emod] at this
  exact this
 ·have:=VL h l y (by omega) (by omega) hp (by omega)
  rw[Int.natCast_ediv,Int.natCast_emod] at this
  exact this
def divC:List D→Option (D×List Prop)
 |[.v (.int .u64 h), .v (.int .u64 l), .v (.int .u64 y)]=>some (.bF [u64 ((h*18446744073709551616+l) / y),u64 ((h*18446744073709551616+l)%y)],[0≤h,h<y,y<4294967296,0≤l,l<18446744073709551616])
 |_=>none
def X3:aB:=aJ 91 (.call divC) X2
theorem hX3:bG Try.prog X3:=ax (fun args res l h hl=>by
 unfold divC at h
 split at h
 next x=>
  simp only[Option.some.injEq,Prod.mk.injEq] at h
  obtain⟨rfl,rfl⟩:=h
  obtain⟨h0,h1,h2,h3,h4,_⟩:=hl
  exact Yg _ _ _ h0 h1 h2 h3 h4
 ·cases h) hX2
end MeterS
end

section
namespace MeterS
open Go Go.Dam Go.Proofs
set_option maxRecDepth 1000000
variable [gB]
def aep:List D→Option (D×List Prop)
 |[.agg [.v (.int .u64 h), .v (.int .u64 l)], .agg [.v (.int .u64 d), .v (.int .u64 e)]]=>some (i64 (nM (h*18446744073709551616+l) (d*18446744073709551616+e)),[0≤l,l<18446744073709551616,0≤e,e<18446744073709551616])
 |_=>none
def Yk:List D→Option (D×List Prop)
 |[.agg [.v (.int .u64 h), .v (.int .u64 l)], .agg [.v (.int .u64 d), .v (.int .u64 e)]]=>some (wd (h*18446744073709551616+l - (d*18446744073709551616+e)),[h<18446744073709551616,0≤l,l<18446744073709551616,0≤d,0≤e,e<18446744073709551616,d*18446744073709551616+e≤h*18446744073709551616+l])
 |_=>none
def UR:List D→Option (D×List Prop)
 |[.agg [.v (.int .u64 h), .v (.int .u64 l)], .agg [.v (.int .u64 d), .v (.int .u64 e)]]=>some (.bF [wd (if h*18446744073709551616+l+(d*18446744073709551616+e)<340282366920938463463374607431768211456 then h*18446744073709551616+l+(d*18446744073709551616+e) else 0),i64 (if h*18446744073709551616+l+(d*18446744073709551616+e)<340282366920938463463374607431768211456 then 0 else 16)],[0≤h,h<18446744073709551616,0≤l,l<18446744073709551616,0≤d,d<18446744073709551616,0≤e,e<18446744073709551616])
 |_=>none
def mulC:List D→Option (D×List Prop)
 |[.v (.int .u64 x), .v (.int .u64 y)]=>some (wd (x*y),[0≤x,x<18446744073709551616,0≤y,y<18446744073709551616])
 |_=>none
def Q8:List D→Option (D×List Prop)
 |[.agg [.v (.int .i64 b), .v (.int .i64 r), .v (.int .i64 p)]]=>some (i64 (DT b r p),[])
 |_=>none
theorem aao (args res l) (h:aep args=some (res,l)) (hl:aI l):CallsD Try.prog 82 args res:=by
 unfold aep at h;split at h
 ·simp only[Option.some.injEq,Prod.mk.injEq] at h
  obtain⟨rfl,rfl⟩:=h;obtain⟨h0,h1,h2,h3,_⟩:=hl
  exact aaV _ _ _ _ h0 h1 h2 h3
 ·cases h
theorem WL (args res l) (h:Yk args=some (res,l)) (hl:aI l):CallsD Try.prog 96 args res:=by
 unfold Yk at h;split at h
 ·simp only[Option.some.injEq,Prod.mk.injEq] at h
  obtain⟨rfl,rfl⟩:=h;obtain⟨h0,h1,h2,h3,h4,h5,h6,_⟩:=hl
  exact ZG _ _ _ _ h0 h1 h2 h3 h4 h5 h6
 ·cases h
theorem YT (args res l) (h:UR args=some (res,l)) (hl:aI l):CallsD Try.prog 63 args res:=by
 unfold UR at h;split at h
 ·simp only[Option.some.injEq,Prod.mk.injEq] at h
  obtain⟨rfl,rfl⟩:=h;obtain⟨h0,h1,h2,h3,h4,h5,h6,h7,_⟩:=hl
  exact aa2 _ _ _ _ h0 h1 h2 h3 h4 h5 h6 h7
 ·cases h
theorem WZ (args res l) (h:UR args=some (res,l)) (hl:aI l):CallsD Try.prog 79 args res:=by
 unfold UR at h;split at h
 ·simp only[Option.some.injEq,Prod.mk.injEq] at h
  obtain⟨rfl,rfl⟩:=h;obtain⟨h0,h1,h2,h3,h4,h5,h6,h7,_⟩:=hl
  exact aaW _ _ _ _ h0 h1 h2 h3 h4 h5 h6 h7
 ·cases h
theorem Xf (args res l) (h:mulC args=some (res,l)) (hl:aI l):CallsD Try.prog 64 args res:=by
 unfold mulC at h;split at h
 ·simp only[Option.some.injEq,Prod.mk.injEq] at h
  obtain⟨rfl,rfl⟩:=h;obtain⟨h0,h1,h2,h3,_⟩:=hl
  exact abK _ _ h0 h1 h2 h3
 ·cases h
theorem ZF (args res l) (h:mulC args=some (res,l)) (hl:aI l):CallsD Try.prog 80 args res:=by
 unfold mulC at h;split at h
 ·simp only[Option.some.injEq,Prod.mk.injEq] at h
  obtain⟨rfl,rfl⟩:=h;obtain⟨h0,h1,h2,h3,_⟩:=hl
  exact Z5 _ _ h0 h1 h2 h3
 ·cases h
theorem W9 (args res l) (h:Q8 args=some (res,l)) (hl:aI l):CallsD Try.prog 40 args res:=by
 unfold Q8 at h;split at h
 ·simp only[Option.some.injEq,Prod.mk.injEq] at h
  obtain⟨rfl,rfl⟩:=h
  exact abo _ _ _
 ·cases h
theorem WY (args res l) (h:Q8 args=some (res,l)) (hl:aI l):CallsD Try.prog 46 args res:=by
 unfold Q8 at h;split at h
 ·simp only[Option.some.injEq,Prod.mk.injEq] at h
  obtain⟨rfl,rfl⟩:=h
  exact aaT _ _ _
 ·cases h
def X4:aB:=aJ 82 (.call aep) (aJ 96 (.call Yk) (aJ 63 (.call UR) (aJ 79 (.call UR) (aJ 64 (.call mulC) (aJ 80 (.call mulC) (aJ 40 (.call Q8) (aJ 46 (.call Q8) X3)))))))
theorem Q7:bG Try.prog X4:=ax aao (ax WL (ax YT (ax WZ (ax Xf (ax ZF (ax W9 (ax WY hX3)))))))
end MeterS
end

section
namespace MeterS
open Go Go.Dam Go.Proofs
set_option maxRecDepth 1000000
theorem QU (A A' d g:Int) (hd:0<d) (hA:A=2*A'+g) (hA':0≤A') (g0:0≤g) (g1:g≤1):
  (d≤A'%d*2+g→A / d=2*(A' / d)+1∧A%d=A'%d*2+g - d)∧(A'%d*2+g<d→A / d=2*(A' / d)∧A%d=A'%d*2+g):=by
 have h1:=Int.mul_ediv_add_emod A' d
 have h2:=Int.emod_nonneg A' (show d≠0 by omega)
 have h3:=Int.emod_lt_of_pos A' hd
 generalize A' / d=q at *
 generalize A'%d=r at *
 have key:∀ x y:Int,A=d*x+y→0≤y→y<d→A / d=x∧A%d=y:=fun x y e y0 y1=>by
  rw[e,Int.add_comm]
  exact⟨by rw[Int.add_mul_ediv_left _ _ (by omega),Int.ediv_eq_zero_of_lt y0 y1];omega,by rw[Int.add_mul_emod_self_left,Int.emod_eq_of_lt y0 y1]⟩
 constructor
 ·intro h
  refine key (2*q+1) (r*2+g - d) ?_ (by omega) (by omega)
  rw[Int.mul_add,Int.mul_one,Int.mul_left_comm];omega
 ·intro h
  refine key (2*q) (r*2+g) ?_ (by omega) (by omega)
  rw[Int.mul_left_comm];omega
theorem Ib {x y:Int}:(ai .geq (nM x y) 0=true)↔y≤x:=by
 rw[iQ];unfold nM;split
 ·omega
 ·split<;>omega
theorem Jh {x y:Int}:(ai .geq (nM x y) 0=false)↔x<y:=by
 rw[iP];unfold nM;split
 ·omega
 ·split<;>omega
theorem and1 {x:Int} (h0:0≤x) (h1:x<18446744073709551616):aj .and .u64 x 1=x%2:=mO 1 (by decide) h0 h1
theorem acA (x:Int):aj .shr .u64 x 63=x / 9223372036854775808:=by
 rw[zN (by decide) (by decide)];rfl
variable [gB]
noncomputable def dH (d i h l qh ql rh rl:Int):Cs:=⟨TT.of [(1,(D.v (Value.int .u64 d))),(2,(D.ptr 64 0)),(4,(D.ptr 128 0)),(5,(D.v (Value.int .u64 0))),(6,(D.v (Value.int .i64 0))),(7,(D.ptr 224 0)),(8,(D.ptr 256 0)),(9,(D.v (Value.int .i64 i)))],71,[],[(64,(BX.cells [(D.v (Value.int .u64 h)),(D.v (Value.int .u64 l))] false)),(128,(BX.cells [(D.v (Value.int .u64 0)),(D.v (Value.int .u64 0))] false)),(224,(BX.cells [(D.v (Value.int .u64 qh)),(D.v (Value.int .u64 ql))] false)),(256,(BX.cells [(D.v (Value.int .u64 rh)),(D.v (Value.int .u64 rl))] false))],none,0⟩
theorem PL (d:Int) (i:Int) (h:Int) (l:Int) (qh:Int) (ql:Int) (rh:Int) (rl:Int):fG Try.prog (X4) 100000 (af Try.prog 81 0) [.d true, .d true, .d true] [[1,2,4,5,6,7,8,9]] [(64,64),(128,128),(224,224),(256,256)] (dH d i h l qh ql rh rl)=some (Ex.normal,(dH (d) (aj .sub .i64 i 1) (h) (l) (aj .add .u64 (aj .mul .u64 qh 2) (aj .shr .u64 ql 63)) (aj .add .u64 (aj .mul .u64 ql 2) 1) ((aj .add .u64 (aj .mul .u64 rh 2) (aj .shr .u64 rl 63)*18446744073709551616 +
   aj .add .u64 (aj .mul .u64 rl 2)
    (aj .and .u64 (aj .shr .u64 h (aj .sub .i64 i 64)) 1) -
  (0+d)) /
 18446744073709551616) ((aj .add .u64 (aj .mul .u64 rh 2) (aj .shr .u64 rl 63)*18446744073709551616 +
   aj .add .u64 (aj .mul .u64 rl 2)
    (aj .and .u64 (aj .shr .u64 h (aj .sub .i64 i 64)) 1) -
  (0+d)) %
 18446744073709551616)),[aj .add .u64 (aj .mul .u64 rh 2) (aj .shr .u64 rl 63)<18446744073709551616,
 0≤
 aj .add .u64 (aj .mul .u64 rl 2)
  (aj .and .u64 (aj .shr .u64 h (aj .sub .i64 i 64)) 1),
 aj .add .u64 (aj .mul .u64 rl 2)
  (aj .and .u64 (aj .shr .u64 h (aj .sub .i64 i 64)) 1) <
 18446744073709551616,
 (0:Int)≤(0:Int),
 0≤d,
 d<18446744073709551616,
 0+d≤
 aj .add .u64 (aj .mul .u64 rh 2) (aj .shr .u64 rl 63)*18446744073709551616 +
  aj .add .u64 (aj .mul .u64 rl 2)
   (aj .and .u64 (aj .shr .u64 h (aj .sub .i64 i 64)) 1),
 ai .geq
  (nM
   (aj .add .u64 (aj .mul .u64 rh 2) (aj .shr .u64 rl 63) *
     18446744073709551616 +
    aj .add .u64 (aj .mul .u64 rl 2)
     (aj .and .u64 (aj .shr .u64 h (aj .sub .i64 i 64)) 1))
   (0+d))
  0 =
 true,
 0≤
 aj .add .u64 (aj .mul .u64 rl 2)
  (aj .and .u64 (aj .shr .u64 h (aj .sub .i64 i 64)) 1),
 aj .add .u64 (aj .mul .u64 rl 2)
  (aj .and .u64 (aj .shr .u64 h (aj .sub .i64 i 64)) 1) <
 18446744073709551616,
 0≤d,
 d<18446744073709551616,
 true=true,
 true=true,
 decide (0≤aj .sub .i64 i 64)=true,
 ai .gtr i 63=true,
 decide (0≤i)=true,
 ai .geq i 0=true]):=by kernel_rfl
theorem O8 (d:Int) (i:Int) (h:Int) (l:Int) (qh:Int) (ql:Int) (rh:Int) (rl:Int):fG Try.prog (X4) 100000 (af Try.prog 81 0) [.d true, .d true, .d false] [[1,2,4,5,6,7,8,9]] [(64,64),(128,128),(224,224),(256,256)] (dH d i h l qh ql rh rl)=some (Ex.normal,(dH (d) (aj .sub .i64 i 1) (h) (l) (aj .add .u64 (aj .mul .u64 qh 2) (aj .shr .u64 ql 63)) (aj .mul .u64 ql 2) (aj .add .u64 (aj .mul .u64 rh 2) (aj .shr .u64 rl 63)) (aj .add .u64 (aj .mul .u64 rl 2)
 (aj .and .u64 (aj .shr .u64 h (aj .sub .i64 i 64)) 1))),[ai .geq
  (nM
   (aj .add .u64 (aj .mul .u64 rh 2) (aj .shr .u64 rl 63) *
     18446744073709551616 +
    aj .add .u64 (aj .mul .u64 rl 2)
     (aj .and .u64 (aj .shr .u64 h (aj .sub .i64 i 64)) 1))
   (0+d))
  0 =
 false,
 0≤
 aj .add .u64 (aj .mul .u64 rl 2)
  (aj .and .u64 (aj .shr .u64 h (aj .sub .i64 i 64)) 1),
 aj .add .u64 (aj .mul .u64 rl 2)
  (aj .and .u64 (aj .shr .u64 h (aj .sub .i64 i 64)) 1) <
 18446744073709551616,
 0≤d,
 d<18446744073709551616,
 true=true,
 true=true,
 decide (0≤aj .sub .i64 i 64)=true,
 ai .gtr i 63=true,
 decide (0≤i)=true,
 ai .geq i 0=true]):=by kernel_rfl
theorem Ri (d:Int) (i:Int) (h:Int) (l:Int) (qh:Int) (ql:Int) (rh:Int) (rl:Int):fG Try.prog (X4) 100000 (af Try.prog 81 0) [.d true, .d false, .d true] [[1,2,4,5,6,7,8,9]] [(64,64),(128,128),(224,224),(256,256)] (dH d i h l qh ql rh rl)=some (Ex.normal,(dH (d) (aj .sub .i64 i 1) (h) (l) (aj .add .u64 (aj .mul .u64 qh 2) (aj .shr .u64 ql 63)) (aj .add .u64 (aj .mul .u64 ql 2) 1) ((aj .add .u64 (aj .mul .u64 rh 2) (aj .shr .u64 rl 63)*18446744073709551616 +
   aj .add .u64 (aj .mul .u64 rl 2)
    (aj .and .u64 (aj .shr .u64 l i) 1) -
  (0+d)) /
 18446744073709551616) ((aj .add .u64 (aj .mul .u64 rh 2) (aj .shr .u64 rl 63)*18446744073709551616 +
   aj .add .u64 (aj .mul .u64 rl 2)
    (aj .and .u64 (aj .shr .u64 l i) 1) -
  (0+d)) %
 18446744073709551616)),[aj .add .u64 (aj .mul .u64 rh 2) (aj .shr .u64 rl 63)<18446744073709551616,
 0≤
 aj .add .u64 (aj .mul .u64 rl 2)
  (aj .and .u64 (aj .shr .u64 l i) 1),
 aj .add .u64 (aj .mul .u64 rl 2)
  (aj .and .u64 (aj .shr .u64 l i) 1) <
 18446744073709551616,
 (0:Int)≤(0:Int),
 0≤d,
 d<18446744073709551616,
 0+d≤
 aj .add .u64 (aj .mul .u64 rh 2) (aj .shr .u64 rl 63)*18446744073709551616 +
  aj .add .u64 (aj .mul .u64 rl 2)
   (aj .and .u64 (aj .shr .u64 l i) 1),
 ai .geq
  (nM
   (aj .add .u64 (aj .mul .u64 rh 2) (aj .shr .u64 rl 63) *
     18446744073709551616 +
    aj .add .u64 (aj .mul .u64 rl 2)
     (aj .and .u64 (aj .shr .u64 l i) 1))
   (0+d))
  0 =
 true,
 0≤
 aj .add .u64 (aj .mul .u64 rl 2)
  (aj .and .u64 (aj .shr .u64 l i) 1),
 aj .add .u64 (aj .mul .u64 rl 2)
  (aj .and .u64 (aj .shr .u64 l i) 1) <
 18446744073709551616,
 0≤d,
 d<18446744073709551616,
 true=true,
 true=true,
 ai .gtr i 63=false,
 decide (0≤i)=true,
 ai .geq i 0=true]):=by kernel_rfl
theorem Qb (d:Int) (i:Int) (h:Int) (l:Int) (qh:Int) (ql:Int) (rh:Int) (rl:Int):fG Try.prog (X4) 100000 (af Try.prog 81 0) [.d true, .d false, .d false] [[1,2,4,5,6,7,8,9]] [(64,64),(128,128),(224,224),(256,256)] (dH d i h l qh ql rh rl)=some (Ex.normal,(dH (d) (aj .sub .i64 i 1) (h) (l) (aj .add .u64 (aj .mul .u64 qh 2) (aj .shr .u64 ql 63)) (aj .mul .u64 ql 2) (aj .add .u64 (aj .mul .u64 rh 2) (aj .shr .u64 rl 63)) (aj .add .u64 (aj .mul .u64 rl 2) (aj .and .u64 (aj .shr .u64 l i) 1))),[ai .geq
  (nM
   (aj .add .u64 (aj .mul .u64 rh 2) (aj .shr .u64 rl 63) *
     18446744073709551616 +
    aj .add .u64 (aj .mul .u64 rl 2)
     (aj .and .u64 (aj .shr .u64 l i) 1))
   (0+d))
  0 =
 false,
 0≤
 aj .add .u64 (aj .mul .u64 rl 2)
  (aj .and .u64 (aj .shr .u64 l i) 1),
 aj .add .u64 (aj .mul .u64 rl 2)
  (aj .and .u64 (aj .shr .u64 l i) 1) <
 18446744073709551616,
 0≤d,
 d<18446744073709551616,
 true=true,
 true=true,
 ai .gtr i 63=false,
 decide (0≤i)=true,
 ai .geq i 0=true]):=by kernel_rfl
theorem Pj (d:Int) (i:Int) (h:Int) (l:Int) (qh:Int) (ql:Int) (rh:Int) (rl:Int):fG Try.prog (X4) 100000 (af Try.prog 81 0) [.d false] [[1,2,4,5,6,7,8,9]] [(64,64),(128,128),(224,224),(256,256)] (dH d i h l qh ql rh rl)=some (Ex.exit 0,(dH (d) (i) (h) (l) (qh) (ql) (rh) (rl)),[ai .geq i 0=false]):=by kernel_rfl
theorem xg (d:Int) (i:Int) (h:Int) (l:Int) (qh:Int) (ql:Int) (rh:Int) (rl:Int) (σ:St) (e:Ex)
 (h0:((ai .geq i 0)=true)→((ai .gtr i 63)=true)→((ai .geq
 (nM
  (aj .add .u64 (aj .mul .u64 rh 2) (aj .shr .u64 rl 63) *
    18446744073709551616 +
   aj .add .u64 (aj .mul .u64 rl 2)
    (aj .and .u64 (aj .shr .u64 h (aj .sub .i64 i 64)) 1))
  (0+d))
 0)=true)→((aj .add .u64 (aj .mul .u64 rh 2) (aj .shr .u64 rl 63)<18446744073709551616)∧(0≤
 aj .add .u64 (aj .mul .u64 rl 2)
  (aj .and .u64 (aj .shr .u64 h (aj .sub .i64 i 64)) 1))∧(aj .add .u64 (aj .mul .u64 rl 2)
  (aj .and .u64 (aj .shr .u64 h (aj .sub .i64 i 64)) 1) <
 18446744073709551616)∧((0:Int)≤(0:Int))∧(0≤d)∧(d<18446744073709551616)∧(0+d≤
 aj .add .u64 (aj .mul .u64 rh 2) (aj .shr .u64 rl 63)*18446744073709551616 +
  aj .add .u64 (aj .mul .u64 rl 2)
   (aj .and .u64 (aj .shr .u64 h (aj .sub .i64 i 64)) 1))∧(0≤
 aj .add .u64 (aj .mul .u64 rl 2)
  (aj .and .u64 (aj .shr .u64 h (aj .sub .i64 i 64)) 1))∧(aj .add .u64 (aj .mul .u64 rl 2)
  (aj .and .u64 (aj .shr .u64 h (aj .sub .i64 i 64)) 1) <
 18446744073709551616)∧(0≤d)∧(d<18446744073709551616)∧(decide (0≤aj .sub .i64 i 64)=true)∧(decide (0≤i)=true)∧True)∧Runs Try.prog (CallsD Try.prog) (.rounds (af Try.prog 81 0)) (dH (d) (aj .sub .i64 i 1) (h) (l) (aj .add .u64 (aj .mul .u64 qh 2) (aj .shr .u64 ql 63)) (aj .add .u64 (aj .mul .u64 ql 2) 1) ((aj .add .u64 (aj .mul .u64 rh 2) (aj .shr .u64 rl 63)*18446744073709551616 +
   aj .add .u64 (aj .mul .u64 rl 2)
    (aj .and .u64 (aj .shr .u64 h (aj .sub .i64 i 64)) 1) -
  (0+d)) /
 18446744073709551616) ((aj .add .u64 (aj .mul .u64 rh 2) (aj .shr .u64 rl 63)*18446744073709551616 +
   aj .add .u64 (aj .mul .u64 rl 2)
    (aj .and .u64 (aj .shr .u64 h (aj .sub .i64 i 64)) 1) -
  (0+d)) %
 18446744073709551616)).abs e σ)
 (h1:((ai .geq i 0)=true)→((ai .gtr i 63)=true)→((ai .geq
 (nM
  (aj .add .u64 (aj .mul .u64 rh 2) (aj .shr .u64 rl 63) *
    18446744073709551616 +
   aj .add .u64 (aj .mul .u64 rl 2)
    (aj .and .u64 (aj .shr .u64 h (aj .sub .i64 i 64)) 1))
  (0+d))
 0)=false)→((0≤
 aj .add .u64 (aj .mul .u64 rl 2)
  (aj .and .u64 (aj .shr .u64 h (aj .sub .i64 i 64)) 1))∧(aj .add .u64 (aj .mul .u64 rl 2)
  (aj .and .u64 (aj .shr .u64 h (aj .sub .i64 i 64)) 1) <
 18446744073709551616)∧(0≤d)∧(d<18446744073709551616)∧(decide (0≤aj .sub .i64 i 64)=true)∧(decide (0≤i)=true)∧True)∧Runs Try.prog (CallsD Try.prog) (.rounds (af Try.prog 81 0)) (dH (d) (aj .sub .i64 i 1) (h) (l) (aj .add .u64 (aj .mul .u64 qh 2) (aj .shr .u64 ql 63)) (aj .mul .u64 ql 2) (aj .add .u64 (aj .mul .u64 rh 2) (aj .shr .u64 rl 63)) (aj .add .u64 (aj .mul .u64 rl 2)
 (aj .and .u64 (aj .shr .u64 h (aj .sub .i64 i 64)) 1))).abs e σ)
 (h2:((ai .geq i 0)=true)→((ai .gtr i 63)=false)→((ai .geq
 (nM
  (aj .add .u64 (aj .mul .u64 rh 2) (aj .shr .u64 rl 63) *
    18446744073709551616 +
   aj .add .u64 (aj .mul .u64 rl 2)
    (aj .and .u64 (aj .shr .u64 l i) 1))
  (0+d))
 0)=true)→((aj .add .u64 (aj .mul .u64 rh 2) (aj .shr .u64 rl 63)<18446744073709551616)∧(0≤
 aj .add .u64 (aj .mul .u64 rl 2)
  (aj .and .u64 (aj .shr .u64 l i) 1))∧(aj .add .u64 (aj .mul .u64 rl 2)
  (aj .and .u64 (aj .shr .u64 l i) 1) <
 18446744073709551616)∧((0:Int)≤(0:Int))∧(0≤d)∧(d<18446744073709551616)∧(0+d≤
 aj .add .u64 (aj .mul .u64 rh 2) (aj .shr .u64 rl 63)*18446744073709551616 +
  aj .add .u64 (aj .mul .u64 rl 2)
   (aj .and .u64 (aj .shr .u64 l i) 1))∧(0≤
 aj .add .u64 (aj .mul .u64 rl 2)
  (aj .and .u64 (aj .shr .u64 l i) 1))∧(aj .add .u64 (aj .mul .u64 rl 2)
  (aj .and .u64 (aj .shr .u64 l i) 1) <
 18446744073709551616)∧(0≤d)∧(d<18446744073709551616)∧(decide (0≤i)=true)∧True)∧Runs Try.prog (CallsD Try.prog) (.rounds (af Try.prog 81 0)) (dH (d) (aj .sub .i64 i 1) (h) (l) (aj .add .u64 (aj .mul .u64 qh 2) (aj .shr .u64 ql 63)) (aj .add .u64 (aj .mul .u64 ql 2) 1) ((aj .add .u64 (aj .mul .u64 rh 2) (aj .shr .u64 rl 63)*18446744073709551616 +
   aj .add .u64 (aj .mul .u64 rl 2)
    (aj .and .u64 (aj .shr .u64 l i) 1) -
  (0+d)) /
 18446744073709551616) ((aj .add .u64 (aj .mul .u64 rh 2) (aj .shr .u64 rl 63)*18446744073709551616 +
   aj .add .u64 (aj .mul .u64 rl 2)
    (aj .and .u64 (aj .shr .u64 l i) 1) -
  (0+d)) %
 18446744073709551616)).abs e σ)
 (h3:((ai .geq i 0)=true)→((ai .gtr i 63)=false)→((ai .geq
 (nM
  (aj .add .u64 (aj .mul .u64 rh 2) (aj .shr .u64 rl 63) *
    18446744073709551616 +
   aj .add .u64 (aj .mul .u64 rl 2)
    (aj .and .u64 (aj .shr .u64 l i) 1))
  (0+d))
 0)=false)→((0≤
 aj .add .u64 (aj .mul .u64 rl 2)
  (aj .and .u64 (aj .shr .u64 l i) 1))∧(aj .add .u64 (aj .mul .u64 rl 2)
  (aj .and .u64 (aj .shr .u64 l i) 1) <
 18446744073709551616)∧(0≤d)∧(d<18446744073709551616)∧(decide (0≤i)=true)∧True)∧Runs Try.prog (CallsD Try.prog) (.rounds (af Try.prog 81 0)) (dH (d) (aj .sub .i64 i 1) (h) (l) (aj .add .u64 (aj .mul .u64 qh 2) (aj .shr .u64 ql 63)) (aj .mul .u64 ql 2) (aj .add .u64 (aj .mul .u64 rh 2) (aj .shr .u64 rl 63)) (aj .add .u64 (aj .mul .u64 rl 2) (aj .and .u64 (aj .shr .u64 l i) 1))).abs e σ)
 (h4:((ai .geq i 0)=false)→(True)∧(e=Ex.exit 0∧σ=(dH (d) (i) (h) (l) (qh) (ql) (rh) (rl)).abs)):
 Runs Try.prog (CallsD Try.prog) (.rounds (af Try.prog 81 0)) (dH d i h l qh ql rh rl).abs e σ:=by
 cases e0:(ai .geq i 0) with
 |true=>
  cases e1:(ai .gtr i 63) with
  |true=>
   cases e2:(ai .geq
 (nM
  (aj .add .u64 (aj .mul .u64 rh 2) (aj .shr .u64 rl 63) *
    18446744073709551616 +
   aj .add .u64 (aj .mul .u64 rl 2)
    (aj .and .u64 (aj .shr .u64 h (aj .sub .i64 i 64)) 1))
  (0+d))
 0) with
   |true=>
    exact iI (Q7) (PL d i h l qh ql rh rl) ⟨(h0 e0 e1 e2).1.1,(h0 e0 e1 e2).1.2.1,(h0 e0 e1 e2).1.2.2.1,(h0 e0 e1 e2).1.2.2.2.1,(h0 e0 e1 e2).1.2.2.2.2.1,(h0 e0 e1 e2).1.2.2.2.2.2.1,(h0 e0 e1 e2).1.2.2.2.2.2.2.1,e2,(h0 e0 e1 e2).1.2.2.2.2.2.2.2.1,(h0 e0 e1 e2).1.2.2.2.2.2.2.2.2.1,(h0 e0 e1 e2).1.2.2.2.2.2.2.2.2.2.1,(h0 e0 e1 e2).1.2.2.2.2.2.2.2.2.2.2.1,rfl,rfl,(h0 e0 e1 e2).1.2.2.2.2.2.2.2.2.2.2.2.1,e1,(h0 e0 e1 e2).1.2.2.2.2.2.2.2.2.2.2.2.2.1,e0,trivial⟩ (h0 e0 e1 e2).2
   |false=>
    exact iI (Q7) (O8 d i h l qh ql rh rl) ⟨e2,(h1 e0 e1 e2).1.1,(h1 e0 e1 e2).1.2.1,(h1 e0 e1 e2).1.2.2.1,(h1 e0 e1 e2).1.2.2.2.1,rfl,rfl,(h1 e0 e1 e2).1.2.2.2.2.1,e1,(h1 e0 e1 e2).1.2.2.2.2.2.1,e0,trivial⟩ (h1 e0 e1 e2).2
  |false=>
   cases e2:(ai .geq
 (nM
  (aj .add .u64 (aj .mul .u64 rh 2) (aj .shr .u64 rl 63) *
    18446744073709551616 +
   aj .add .u64 (aj .mul .u64 rl 2)
    (aj .and .u64 (aj .shr .u64 l i) 1))
  (0+d))
 0) with
   |true=>
    exact iI (Q7) (Ri d i h l qh ql rh rl) ⟨(h2 e0 e1 e2).1.1,(h2 e0 e1 e2).1.2.1,(h2 e0 e1 e2).1.2.2.1,(h2 e0 e1 e2).1.2.2.2.1,(h2 e0 e1 e2).1.2.2.2.2.1,(h2 e0 e1 e2).1.2.2.2.2.2.1,(h2 e0 e1 e2).1.2.2.2.2.2.2.1,e2,(h2 e0 e1 e2).1.2.2.2.2.2.2.2.1,(h2 e0 e1 e2).1.2.2.2.2.2.2.2.2.1,(h2 e0 e1 e2).1.2.2.2.2.2.2.2.2.2.1,(h2 e0 e1 e2).1.2.2.2.2.2.2.2.2.2.2.1,rfl,rfl,e1,(h2 e0 e1 e2).1.2.2.2.2.2.2.2.2.2.2.2.1,e0,trivial⟩ (h2 e0 e1 e2).2
   |false=>
    exact iI (Q7) (Qb d i h l qh ql rh rl) ⟨e2,(h3 e0 e1 e2).1.1,(h3 e0 e1 e2).1.2.1,(h3 e0 e1 e2).1.2.2.1,(h3 e0 e1 e2).1.2.2.2.1,rfl,rfl,e1,(h3 e0 e1 e2).1.2.2.2.2.1,e0,trivial⟩ (h3 e0 e1 e2).2
 |false=>
  exact iW (Q7) (Pj d i h l qh ql rh rl) ⟨e0,trivial⟩ (by simp) (h4 e0).2
theorem Yw (h l:Int) (m:Nat) (l0:0≤l) (l1:l<18446744073709551616):h / 2 ^ m=(h*18446744073709551616+l) / 2 ^ (64+m):=by
 rw[Int.pow_add,←Int.ediv_ediv_of_nonneg (Int.le_of_lt (Int.pow_pos (by decide))),show(2:Int) ^ 64=18446744073709551616 from rfl]
 rw[show(h*18446744073709551616+l) / 18446744073709551616=h by omega]
theorem Zr (h l:Int) (m:Nat) (hm:m<64):l / 2 ^ m%2=(h*18446744073709551616+l) / 2 ^ m%2:=by
 have e:(18446744073709551616:Int)=2 ^ m*(2*2 ^ (63 - m)):=by
  rw[←Int.pow_succ',←Int.pow_add,show m+(63 - m).succ=64 by omega];rfl
 have hp:(0:Int)<2 ^ m:=Int.pow_pos (by decide)
 rw[e,Int.mul_left_comm,Int.add_comm,Int.add_mul_ediv_left _ _ (by omega),Int.mul_left_comm,Int.add_mul_emod_self_left]
theorem Nr (d h l:Int) (hd:0<d) (hd1:d<4294967296) (h0:0≤h) (h1:h<18446744073709551616) (l0:0≤l) (l1:l<18446744073709551616):∀ (n:Nat),n≤128→
  Runs Try.prog (CallsD Try.prog) (.rounds (af Try.prog 81 0)) (dH d ((n:Int) - 1) h l ((h*18446744073709551616+l) / 2 ^ n / d / 18446744073709551616) ((h*18446744073709551616+l) / 2 ^ n / d%18446744073709551616) 0 ((h*18446744073709551616+l) / 2 ^ n%d)).abs (.exit 0)
   (dH d (-1) h l ((h*18446744073709551616+l) / d / 18446744073709551616) ((h*18446744073709551616+l) / d%18446744073709551616) 0 ((h*18446744073709551616+l)%d)).abs:=by
 intro n
 induction n with
 |zero=>
  intro _
  rw[Int.pow_zero,Int.ediv_one]
  refine xg _ _ _ _ _ _ _ _ _ _ ?_ ?_ ?_ ?_ ?_
  ·intro a;simp only[iQ] at a;omega
  ·intro a;simp only[iQ] at a;omega
  ·intro a;simp only[iQ] at a;omega
  ·intro a;simp only[iQ] at a;omega
  ·intro a;exact⟨trivial,rfl,rfl⟩
 |succ m ih=>
  intro hm
  have ih:=ih (by omega)
  have hp:(0:Int)<2 ^ m:=Int.pow_pos (by decide)
  have eA:(h*18446744073709551616+l) / 2 ^ (m+1)=(h*18446744073709551616+l) / 2 ^ m / 2:=by
   rw[Int.pow_succ,Int.ediv_ediv_of_nonneg (by omega)]
  have hA0:0≤(h*18446744073709551616+l) / 2 ^ m:=Int.ediv_nonneg (by omega) (by omega)
  have hA1:(h*18446744073709551616+l) / 2 ^ m<340282366920938463463374607431768211456:=Int.lt_of_le_of_lt (Int.ediv_le_self _ (by omega)) (by omega)
  have gh:(63:Int)<m→aj .and .u64 (aj .shr .u64 h ((m:Int) - 64)) 1=(h*18446744073709551616+l) / 2 ^ m%2:=fun hm'=>by
   rw[show((m:Int) - 64)=((m - 64:Nat):Int) by omega,XK _ _ (by omega)]
   have hq:h / 2 ^ (m - 64)≤h:=Int.ediv_le_self _ h0
   rw[and1 (Int.ediv_nonneg h0 (Int.le_of_lt (Int.pow_pos (by decide)))) (by omega),Yw h l (m - 64) l0 l1,show 64+(m - 64)=m by omega]
  have gl:(m:Int)≤63→aj .and .u64 (aj .shr .u64 l m) 1=(h*18446744073709551616+l) / 2 ^ m%2:=fun hm'=>by
   rw[XK _ _ (by omega)]
   have hq:l / 2 ^ m≤l:=Int.ediv_le_self _ l0
   rw[and1 (Int.ediv_nonneg l0 (Int.le_of_lt (Int.pow_pos (by decide)))) (by omega),Zr h l m (by omega)]
  rw[eA]
  generalize (h*18446744073709551616+l) / 2 ^ m=A at *
  obtain⟨s1,s2⟩:=QU A (A / 2) d (A%2) hd (by omega) (by omega) (by omega) (by omega)
  have r0:=Int.emod_nonneg (A / 2) (show d≠0 by omega)
  have r1:=Int.emod_lt_of_pos (A / 2) hd
  have q0:0≤A / 2 / d:=Int.ediv_nonneg (by omega) (by omega)
  have q1:A / 2 / d≤A / 2:=Int.ediv_le_self _ (by omega)
  generalize A / 2 / d=q at *
  generalize A / 2%d=r at *
  have ei:(((m+1:Nat):Int) - 1)=m:=by omega
  rw[ei]
  have e1:aj .sub .i64 (m:Int) 1=m - 1:=by rw[eY,aT (by omega) (by omega)]
  have e2:aj .add .u64 (aj .mul .u64 (q / 18446744073709551616) 2) (aj .shr .u64 (q%18446744073709551616) 63)=(2*q) / 18446744073709551616:=by
   simp only[dX,kP,acA,wrap_u64];omega
  have e3:aj .mul .u64 (q%18446744073709551616) 2=(2*q)%18446744073709551616:=by
   simp only[kP,wrap_u64];omega
  have e3':aj .add .u64 ((2*q)%18446744073709551616) 1=(2*q+1)%18446744073709551616:=by
   simp only[dX,wrap_u64];omega
  have e3'':(2*q) / 18446744073709551616=(2*q+1) / 18446744073709551616:=by omega
  have e4:aj .add .u64 (aj .mul .u64 0 2) (aj .shr .u64 r 63)=0:=by
   simp only[dX,kP,acA,wrap_u64];omega
  have e5:aj .add .u64 (aj .mul .u64 r 2) (A%2)=r*2+A%2:=by
   simp only[dX,kP,wrap_u64];omega
  have e6:aj .sub .i64 (m:Int) 64=m - 64:=by rw[eY,aT (by omega) (by omega)]
  refine xg _ _ _ _ _ _ _ _ _ _ ?_ ?_ ?_ ?_ ?_
  ·intro a b c
   simp only[dV] at b
   have b:(63:Int)<m:=b
   simp only[gh b,e1,e2,e3,e3',e4,e5,e6,Int.zero_mul,Int.zero_add,Ib,decide_eq_true_eq] at c ⊢
   obtain⟨t1,t2⟩:=s1 c
   rw[t1,t2] at ih
   refine⟨by simp only[and_true];omega,?_⟩
   rw[e3'',show(r*2+A%2 - d) / 18446744073709551616=0 by omega,show(r*2+A%2 - d)%18446744073709551616=r*2+A%2 - d by omega]
   exact ih
  ·intro a b c
   simp only[dV] at b
   have b:(63:Int)<m:=b
   simp only[gh b,e1,e2,e3,e4,e5,e6,Int.zero_mul,Int.zero_add,Jh,decide_eq_true_eq] at c ⊢
   obtain⟨t1,t2⟩:=s2 c
   rw[t1,t2] at ih
   exact⟨by simp only[and_true];omega,ih⟩
  ·intro a b c
   simp only[gI] at b
   have b:(m:Int)≤63:=b
   simp only[gl b,e1,e2,e3,e3',e4,e5,Int.zero_mul,Int.zero_add,Ib,decide_eq_true_eq] at c ⊢
   obtain⟨t1,t2⟩:=s1 c
   rw[t1,t2] at ih
   refine⟨by simp only[and_true];omega,?_⟩
   rw[e3'',show(r*2+A%2 - d) / 18446744073709551616=0 by omega,show(r*2+A%2 - d)%18446744073709551616=r*2+A%2 - d by omega]
   exact ih
  ·intro a b c
   simp only[gI] at b
   have b:(m:Int)≤63:=b
   simp only[gl b,e1,e2,e3,e4,e5,Int.zero_mul,Int.zero_add,Jh,decide_eq_true_eq] at c ⊢
   obtain⟨t1,t2⟩:=s2 c
   rw[t1,t2] at ih
   exact⟨by simp only[and_true];omega,ih⟩
  ·intro a;simp only[iP] at a;omega
end MeterS
end
