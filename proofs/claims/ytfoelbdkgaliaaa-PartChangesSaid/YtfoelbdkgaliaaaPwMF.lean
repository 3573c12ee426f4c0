/- What the functions compute, and the law. No condition. -/
import Derived.Test.YtfoelbdkgaliaaaDamXK
import Derived.Test.YtfoelbdkgaliaaaProg
import Derived.KernelRfl
set_option linter.unusedSectionVars false
set_option linter.unusedVariables false
set_option linter.unusedSimpArgs false
section
namespace MeterS
open Go Go.Dam Go.Proofs
set_option maxRecDepth 1000000
variable [gB]
theorem ah8 (x y c:Int) (hx:0≤x) (hy:0≤y) (h0:0≤c) (h1:c≤1):dA Try.prog (callFunc 89 #[.int .u64 x, .int .u64 y, .int .u64 c]) =
  some (.value (.tuple #[.int .u64 ((x+y+c)%18446744073709551616), .int .u64 ((x+y+c) / 18446744073709551616)])):=by
 obtain⟨m,rfl⟩:=Int.eq_ofNat_of_zero_le hx
 obtain⟨n,rfl⟩:=Int.eq_ofNat_of_zero_le hy
 have e0:dA Try.prog (callFunc 89 #[.int .u64 (Int.ofNat m), .int .u64 (Int.ofNat n), .int .u64 0])=some (.value (.tuple #[.int .u64 (Int.ofNat ((m+n+0)%18446744073709551616)), .int .u64 (Int.ofNat ((m+n+0) / 18446744073709551616))])):=by kernel_rfl
 have e1:dA Try.prog (callFunc 89 #[.int .u64 (Int.ofNat m), .int .u64 (Int.ofNat n), .int .u64 1])=some (.value (.tuple #[.int .u64 (Int.ofNat ((m+n+1)%18446744073709551616)), .int .u64 (Int.ofNat ((m+n+1) / 18446744073709551616))])):=by kernel_rfl
 obtain rfl | rfl:c=0∨c=1:=by omega
 ·exact e0
 ·exact e1
def Zy:List Value→Option (Value×List Prop)
 |[.int .u64 x, .int .u64 y, .int .u64 c]=>some (.tuple #[.int .u64 ((x+y+c)%18446744073709551616), .int .u64 ((x+y+c) / 18446744073709551616)],[0≤x,0≤y,0≤c,c≤1])
 |_=>none
def X0:aB:=aJ 89 (.ext Zy) Zb
theorem hX0:bG Try.prog X0:=Ui (fun vs u l h hl=>by
 unfold Zy at h
 split at h
 next x y c=>
  simp only[Option.some.injEq,Prod.mk.injEq] at h
  obtain⟨rfl,rfl⟩:=h
  obtain⟨h1,h2,h3,h4,_⟩:=hl
  exact ah8 x y c h1 h2 h3 h4
 ·cases h) Om
end MeterS
end

section
namespace MeterS
open Go Go.Dam Go.Proofs
set_option maxRecDepth 1000000
variable [gB]
theorem abG (b:Int) (r:Int) (p:Int):cu Try.prog (X0) 100000 [.d true, .c 14] 40 [D.agg [D.v (Value.int .i64 b),D.v (Value.int .i64 r),D.v (Value.int .i64 p)]]=some (D.v (Value.int .i64 8),[ai .lss b 1=true]):=by kernel_rfl
theorem Z4 (b:Int) (r:Int) (p:Int):cu Try.prog (X0) 100000 [.d false, .c 1, .d true, .c 11] 40 [D.agg [D.v (Value.int .i64 b),D.v (Value.int .i64 r),D.v (Value.int .i64 p)]]=some (D.v (Value.int .i64 8),[ai .gtr b 1000000000=true,
 ai .lss b 1=false]):=by kernel_rfl
theorem abf (b:Int) (r:Int) (p:Int):cu Try.prog (X0) 100000 [.d false, .c 1, .d false, .c 1, .d true, .c 8] 40 [D.agg [D.v (Value.int .i64 b),D.v (Value.int .i64 r),D.v (Value.int .i64 p)]]=some (D.v (Value.int .i64 8),[ai .lss r 0=true,
 ai .gtr b 1000000000=false,
 ai .lss b 1=false]):=by kernel_rfl
theorem aay (b:Int) (r:Int) (p:Int):cu Try.prog (X0) 100000 [.d false, .c 1, .d false, .c 1, .d false, .c 1, .d true, .c 5] 40 [D.agg [D.v (Value.int .i64 b),D.v (Value.int .i64 r),D.v (Value.int .i64 p)]]=some (D.v (Value.int .i64 8),[ai .gtr r 1000000000=true,
 ai .lss r 0=false,
 ai .gtr b 1000000000=false,
 ai .lss b 1=false]):=by kernel_rfl
theorem abn (b:Int) (r:Int) (p:Int):cu Try.prog (X0) 100000 [.d false, .c 1, .d false, .c 1, .d false, .c 1, .d false, .c 1, .d true, .c 2] 40 [D.agg [D.v (Value.int .i64 b),D.v (Value.int .i64 r),D.v (Value.int .i64 p)]]=some (D.v (Value.int .i64 8),[ai .lss p 1=true,
 ai .gtr r 1000000000=false,
 ai .lss r 0=false,
 ai .gtr b 1000000000=false,
 ai .lss b 1=false]):=by kernel_rfl
theorem Z8 (b:Int) (r:Int) (p:Int):cu Try.prog (X0) 100000 [.d false, .c 1, .d false, .c 1, .d false, .c 1, .d false, .c 1, .d false, .c 1, .d true] 40 [D.agg [D.v (Value.int .i64 b),D.v (Value.int .i64 r),D.v (Value.int .i64 p)]]=some (D.v (Value.int .i64 8),[ai .gtr p 1000000000=true,
 ai .lss p 1=false,
 ai .gtr r 1000000000=false,
 ai .lss r 0=false,
 ai .gtr b 1000000000=false,
 ai .lss b 1=false]):=by kernel_rfl
theorem abV (b:Int) (r:Int) (p:Int):cu Try.prog (X0) 100000 [.d false, .c 1, .d false, .c 1, .d false, .c 1, .d false, .c 1, .d false, .c 1, .d false] 40 [D.agg [D.v (Value.int .i64 b),D.v (Value.int .i64 r),D.v (Value.int .i64 p)]]=some (D.v (Value.int .i64 0),[ai .gtr p 1000000000=false,
 ai .lss p 1=false,
 ai .gtr r 1000000000=false,
 ai .lss r 0=false,
 ai .gtr b 1000000000=false,
 ai .lss b 1=false]):=by kernel_rfl
theorem Qq (b:Int) (r:Int) (p:Int) (res:D)
 (h0:((ai .lss b 1)=true)→(True)∧res=D.v (Value.int .i64 8))
 (h1:((ai .lss b 1)=false)→((ai .gtr b 1000000000)=true)→(True)∧res=D.v (Value.int .i64 8))
 (h2:((ai .lss b 1)=false)→((ai .gtr b 1000000000)=false)→((ai .lss r 0)=true)→(True)∧res=D.v (Value.int .i64 8))
 (h3:((ai .lss b 1)=false)→((ai .gtr b 1000000000)=false)→((ai .lss r 0)=false)→((ai .gtr r 1000000000)=true)→(True)∧res=D.v (Value.int .i64 8))
 (h4:((ai .lss b 1)=false)→((ai .gtr b 1000000000)=false)→((ai .lss r 0)=false)→((ai .gtr r 1000000000)=false)→((ai .lss p 1)=true)→(True)∧res=D.v (Value.int .i64 8))
 (h5:((ai .lss b 1)=false)→((ai .gtr b 1000000000)=false)→((ai .lss r 0)=false)→((ai .gtr r 1000000000)=false)→((ai .lss p 1)=false)→((ai .gtr p 1000000000)=true)→(True)∧res=D.v (Value.int .i64 8))
 (h6:((ai .lss b 1)=false)→((ai .gtr b 1000000000)=false)→((ai .lss r 0)=false)→((ai .gtr r 1000000000)=false)→((ai .lss p 1)=false)→((ai .gtr p 1000000000)=false)→(True)∧res=D.v (Value.int .i64 0)):
 CallsD Try.prog 40 [D.agg [D.v (Value.int .i64 b),D.v (Value.int .i64 r),D.v (Value.int .i64 p)]] res:=by
 cases e0:(ai .lss b 1) with
 |true=>
  exact aV (hX0) (abG b r p) ⟨e0,trivial⟩ (h0 e0).2
 |false=>
  cases e1:(ai .gtr b 1000000000) with
  |true=>
   exact aV (hX0) (Z4 b r p) ⟨e1,e0,trivial⟩ (h1 e0 e1).2
  |false=>
   cases e2:(ai .lss r 0) with
   |true=>
    exact aV (hX0) (abf b r p) ⟨e2,e1,e0,trivial⟩ (h2 e0 e1 e2).2
   |false=>
    cases e3:(ai .gtr r 1000000000) with
    |true=>
     exact aV (hX0) (aay b r p) ⟨e3,e2,e1,e0,trivial⟩ (h3 e0 e1 e2 e3).2
    |false=>
     cases e4:(ai .lss p 1) with
     |true=>
      exact aV (hX0) (abn b r p) ⟨e4,e3,e2,e1,e0,trivial⟩ (h4 e0 e1 e2 e3 e4).2
     |false=>
      cases e5:(ai .gtr p 1000000000) with
      |true=>
       exact aV (hX0) (Z8 b r p) ⟨e5,e4,e3,e2,e1,e0,trivial⟩ (h5 e0 e1 e2 e3 e4 e5).2
      |false=>
       exact aV (hX0) (abV b r p) ⟨e5,e4,e3,e2,e1,e0,trivial⟩ (h6 e0 e1 e2 e3 e4 e5).2
theorem ab1 (b:Int) (r:Int) (p:Int):cu Try.prog (X0) 100000 [.d true, .c 14] 46 [D.agg [D.v (Value.int .i64 b),D.v (Value.int .i64 r),D.v (Value.int .i64 p)]]=some (D.v (Value.int .i64 8),[ai .lss b 1=true]):=by kernel_rfl
theorem aaF (b:Int) (r:Int) (p:Int):cu Try.prog (X0) 100000 [.d false, .c 1, .d true, .c 11] 46 [D.agg [D.v (Value.int .i64 b),D.v (Value.int .i64 r),D.v (Value.int .i64 p)]]=some (D.v (Value.int .i64 8),[ai .gtr b 1000000000=true,
 ai .lss b 1=false]):=by kernel_rfl
theorem abN (b:Int) (r:Int) (p:Int):cu Try.prog (X0) 100000 [.d false, .c 1, .d false, .c 1, .d true, .c 8] 46 [D.agg [D.v (Value.int .i64 b),D.v (Value.int .i64 r),D.v (Value.int .i64 p)]]=some (D.v (Value.int .i64 8),[ai .lss r 0=true,
 ai .gtr b 1000000000=false,
 ai .lss b 1=false]):=by kernel_rfl
theorem aaH (b:Int) (r:Int) (p:Int):cu Try.prog (X0) 100000 [.d false, .c 1, .d false, .c 1, .d false, .c 1, .d true, .c 5] 46 [D.agg [D.v (Value.int .i64 b),D.v (Value.int .i64 r),D.v (Value.int .i64 p)]]=some (D.v (Value.int .i64 8),[ai .gtr r 1000000000=true,
 ai .lss r 0=false,
 ai .gtr b 1000000000=false,
 ai .lss b 1=false]):=by kernel_rfl
theorem aaC (b:Int) (r:Int) (p:Int):cu Try.prog (X0) 100000 [.d false, .c 1, .d false, .c 1, .d false, .c 1, .d false, .c 1, .d true, .c 2] 46 [D.agg [D.v (Value.int .i64 b),D.v (Value.int .i64 r),D.v (Value.int .i64 p)]]=some (D.v (Value.int .i64 8),[ai .lss p 1=true,
 ai .gtr r 1000000000=false,
 ai .lss r 0=false,
 ai .gtr b 1000000000=false,
 ai .lss b 1=false]):=by kernel_rfl
theorem acn (b:Int) (r:Int) (p:Int):cu Try.prog (X0) 100000 [.d false, .c 1, .d false, .c 1, .d false, .c 1, .d false, .c 1, .d false, .c 1, .d true] 46 [D.agg [D.v (Value.int .i64 b),D.v (Value.int .i64 r),D.v (Value.int .i64 p)]]=some (D.v (Value.int .i64 8),[ai .gtr p 1000000000=true,
 ai .lss p 1=false,
 ai .gtr r 1000000000=false,
 ai .lss r 0=false,
 ai .gtr b 1000000000=false,
 ai .lss b 1=false]):=by kernel_rfl
theorem abH (b:Int) (r:Int) (p:Int):cu Try.prog (X0) 100000 [.d false, .c 1, .d false, .c 1, .d false, .c 1, .d false, .c 1, .d false, .c 1, .d false] 46 [D.agg [D.v (Value.int .i64 b),D.v (Value.int .i64 r),D.v (Value.int .i64 p)]]=some (D.v (Value.int .i64 0),[ai .gtr p 1000000000=false,
 ai .lss p 1=false,
 ai .gtr r 1000000000=false,
 ai .lss r 0=false,
 ai .gtr b 1000000000=false,
 ai .lss b 1=false]):=by kernel_rfl
theorem Pq (b:Int) (r:Int) (p:Int) (res:D)
 (h0:((ai .lss b 1)=true)→(True)∧res=D.v (Value.int .i64 8))
 (h1:((ai .lss b 1)=false)→((ai .gtr b 1000000000)=true)→(True)∧res=D.v (Value.int .i64 8))
 (h2:((ai .lss b 1)=false)→((ai .gtr b 1000000000)=false)→((ai .lss r 0)=true)→(True)∧res=D.v (Value.int .i64 8))
 (h3:((ai .lss b 1)=false)→((ai .gtr b 1000000000)=false)→((ai .lss r 0)=false)→((ai .gtr r 1000000000)=true)→(True)∧res=D.v (Value.int .i64 8))
 (h4:((ai .lss b 1)=false)→((ai .gtr b 1000000000)=false)→((ai .lss r 0)=false)→((ai .gtr r 1000000000)=false)→((ai .lss p 1)=true)→(True)∧res=D.v (Value.int .i64 8))
 (h5:((ai .lss b 1)=false)→((ai .gtr b 1000000000)=false)→((ai .lss r 0)=false)→((ai .gtr r 1000000000)=false)→((ai .lss p 1)=false)→((ai .gtr p 1000000000)=true)→(True)∧res=D.v (Value.int .i64 8))
 (h6:((ai .lss b 1)=false)→((ai .gtr b 1000000000)=false)→((ai .lss r 0)=false)→((ai .gtr r 1000000000)=false)→((ai .lss p 1)=false)→((ai .gtr p 1000000000)=false)→(True)∧res=D.v (Value.int .i64 0)):
 CallsD Try.prog 46 [D.agg [D.v (Value.int .i64 b),D.v (Value.int .i64 r),D.v (Value.int .i64 p)]] res:=by
 cases e0:(ai .lss b 1) with
 |true=>
  exact aV (hX0) (ab1 b r p) ⟨e0,trivial⟩ (h0 e0).2
 |false=>
  cases e1:(ai .gtr b 1000000000) with
  |true=>
   exact aV (hX0) (aaF b r p) ⟨e1,e0,trivial⟩ (h1 e0 e1).2
  |false=>
   cases e2:(ai .lss r 0) with
   |true=>
    exact aV (hX0) (abN b r p) ⟨e2,e1,e0,trivial⟩ (h2 e0 e1 e2).2
   |false=>
    cases e3:(ai .gtr r 1000000000) with
    |true=>
     exact aV (hX0) (aaH b r p) ⟨e3,e2,e1,e0,trivial⟩ (h3 e0 e1 e2 e3).2
    |false=>
     cases e4:(ai .lss p 1) with
     |true=>
      exact aV (hX0) (aaC b r p) ⟨e4,e3,e2,e1,e0,trivial⟩ (h4 e0 e1 e2 e3 e4).2
     |false=>
      cases e5:(ai .gtr p 1000000000) with
      |true=>
       exact aV (hX0) (acn b r p) ⟨e5,e4,e3,e2,e1,e0,trivial⟩ (h5 e0 e1 e2 e3 e4 e5).2
      |false=>
       exact aV (hX0) (abH b r p) ⟨e5,e4,e3,e2,e1,e0,trivial⟩ (h6 e0 e1 e2 e3 e4 e5).2
theorem ab5 (x:Int) (y:Int):cu Try.prog (X0) 100000 [] 64 [D.v (Value.int .u64 x),D.v (Value.int .u64 y)]=some (D.agg
 [D.v
   (Value.int .u64
    (aj .add .u64
     (aj .add .u64
      (aj .mul .u64 (aj .shr .u64 x 32) (aj .shr .u64 y 32))
      (aj .shr .u64
       (aj .add .u64
        (aj .mul .u64 (aj .shr .u64 x 32) (aj .and .u64 y 4294967295))
        (aj .shr .u64
         (aj .mul .u64 (aj .and .u64 x 4294967295)
          (aj .and .u64 y 4294967295))
         32))
       32))
     (aj .shr .u64
      (aj .add .u64
       (aj .and .u64
        (aj .add .u64
         (aj .mul .u64 (aj .shr .u64 x 32) (aj .and .u64 y 4294967295))
         (aj .shr .u64
          (aj .mul .u64 (aj .and .u64 x 4294967295)
           (aj .and .u64 y 4294967295))
          32))
        4294967295)
       (aj .mul .u64 (aj .and .u64 x 4294967295) (aj .shr .u64 y 32)))
      32))),
  D.v (Value.int .u64 (aj .mul .u64 x y))],[true=true,
 true=true,
 true=true,
 true=true,
 true=true]):=by kernel_rfl
theorem Ru (x:Int) (y:Int) (res:D)
 (h0:(True)∧res=D.agg
 [D.v
   (Value.int .u64
    (aj .add .u64
     (aj .add .u64
      (aj .mul .u64 (aj .shr .u64 x 32) (aj .shr .u64 y 32))
      (aj .shr .u64
       (aj .add .u64
        (aj .mul .u64 (aj .shr .u64 x 32) (aj .and .u64 y 4294967295))
        (aj .shr .u64
         (aj .mul .u64 (aj .and .u64 x 4294967295)
          (aj .and .u64 y 4294967295))
         32))
       32))
     (aj .shr .u64
      (aj .add .u64
       (aj .and .u64
        (aj .add .u64
         (aj .mul .u64 (aj .shr .u64 x 32) (aj .and .u64 y 4294967295))
         (aj .shr .u64
          (aj .mul .u64 (aj .and .u64 x 4294967295)
           (aj .and .u64 y 4294967295))
          32))
        4294967295)
       (aj .mul .u64 (aj .and .u64 x 4294967295) (aj .shr .u64 y 32)))
      32))),
  D.v (Value.int .u64 (aj .mul .u64 x y))]):
 CallsD Try.prog 64 [D.v (Value.int .u64 x),D.v (Value.int .u64 y)] res:=by
 exact aV (hX0) (ab5 x y) ⟨rfl,rfl,rfl,rfl,rfl,trivial⟩ (h0).2
theorem abz (x:Int) (y:Int):cu Try.prog (X0) 100000 [] 80 [D.v (Value.int .u64 x),D.v (Value.int .u64 y)]=some (D.agg
 [D.v
   (Value.int .u64
    (aj .add .u64
     (aj .add .u64
      (aj .add .u64
       (aj .mul .u64 (aj .quo .u64 x 4294967296)
        (aj .quo .u64 y 4294967296))
       (aj .quo .u64
        (aj .mul .u64 (aj .quo .u64 x 4294967296)
         (aj .rem .u64 y 4294967296))
        4294967296))
      (aj .quo .u64
       (aj .mul .u64 (aj .rem .u64 x 4294967296)
        (aj .quo .u64 y 4294967296))
       4294967296))
     (aj .quo .u64
      (aj .add .u64
       (aj .add .u64
        (aj .quo .u64
         (aj .mul .u64 (aj .rem .u64 x 4294967296)
          (aj .rem .u64 y 4294967296))
         4294967296)
        (aj .rem .u64
         (aj .mul .u64 (aj .quo .u64 x 4294967296)
          (aj .rem .u64 y 4294967296))
         4294967296))
       (aj .rem .u64
        (aj .mul .u64 (aj .rem .u64 x 4294967296)
         (aj .quo .u64 y 4294967296))
        4294967296))
      4294967296))),
  D.v
   (Value.int .u64
    (aj .add .u64
     (aj .mul .u64
      (aj .rem .u64
       (aj .add .u64
        (aj .add .u64
         (aj .quo .u64
          (aj .mul .u64 (aj .rem .u64 x 4294967296)
           (aj .rem .u64 y 4294967296))
          4294967296)
         (aj .rem .u64
          (aj .mul .u64 (aj .quo .u64 x 4294967296)
           (aj .rem .u64 y 4294967296))
          4294967296))
        (aj .rem .u64
         (aj .mul .u64 (aj .rem .u64 x 4294967296)
          (aj .quo .u64 y 4294967296))
         4294967296))
       4294967296)
      4294967296)
     (aj .rem .u64
      (aj .mul .u64 (aj .rem .u64 x 4294967296)
       (aj .rem .u64 y 4294967296))
      4294967296)))],[false=false,
 false=false,
 false=false,
 false=false,
 false=false,
 false=false,
 false=false,
 false=false,
 false=false,
 false=false,
 false=false,
 false=false]):=by kernel_rfl
theorem Ro (x:Int) (y:Int) (res:D)
 (h0:(True)∧res=D.agg
 [D.v
   (Value.int .u64
    (aj .add .u64
     (aj .add .u64
      (aj .add .u64
       (aj .mul .u64 (aj .quo .u64 x 4294967296)
        (aj .quo .u64 y 4294967296))
       (aj .quo .u64
        (aj .mul .u64 (aj .quo .u64 x 4294967296)
         (aj .rem .u64 y 4294967296))
        4294967296))
      (aj .quo .u64
       (aj .mul .u64 (aj .rem .u64 x 4294967296)
        (aj .quo .u64 y 4294967296))
       4294967296))
     (aj .quo .u64
      (aj .add .u64
       (aj .add .u64
        (aj .quo .u64
         (aj .mul .u64 (aj .rem .u64 x 4294967296)
          (aj .rem .u64 y 4294967296))
         4294967296)
        (aj .rem .u64
         (aj .mul .u64 (aj .quo .u64 x 4294967296)
          (aj .rem .u64 y 4294967296))
         4294967296))
       (aj .rem .u64
        (aj .mul .u64 (aj .rem .u64 x 4294967296)
         (aj .quo .u64 y 4294967296))
        4294967296))
      4294967296))),
  D.v
   (Value.int .u64
    (aj .add .u64
     (aj .mul .u64
      (aj .rem .u64
       (aj .add .u64
        (aj .add .u64
         (aj .quo .u64
          (aj .mul .u64 (aj .rem .u64 x 4294967296)
           (aj .rem .u64 y 4294967296))
          4294967296)
         (aj .rem .u64
          (aj .mul .u64 (aj .quo .u64 x 4294967296)
           (aj .rem .u64 y 4294967296))
          4294967296))
        (aj .rem .u64
         (aj .mul .u64 (aj .rem .u64 x 4294967296)
          (aj .quo .u64 y 4294967296))
         4294967296))
       4294967296)
      4294967296)
     (aj .rem .u64
      (aj .mul .u64 (aj .rem .u64 x 4294967296)
       (aj .rem .u64 y 4294967296))
      4294967296)))]):
 CallsD Try.prog 80 [D.v (Value.int .u64 x),D.v (Value.int .u64 y)] res:=by
 exact aV (hX0) (abz x y) ⟨rfl,rfl,rfl,rfl,rfl,rfl,rfl,rfl,rfl,rfl,rfl,rfl,trivial⟩ (h0).2
theorem acj (h:Int) (l:Int) (d:Int) (e:Int):cu Try.prog (X0) 100000 [.d true] 63 [D.agg [D.v (Value.int .u64 h),D.v (Value.int .u64 l)],
 D.agg [D.v (Value.int .u64 d),D.v (Value.int .u64 e)]]=some (D.bF [D.agg [D.v (Value.int .u64 0),D.v (Value.int .u64 0)],D.v (Value.int .i64 16)],[ai .neq ((h+d+(l+e+0) / 18446744073709551616) / 18446744073709551616) 0=true,
 0≤h,
 0≤d,
 0≤(l+e+0) / 18446744073709551616,
 (l+e+0) / 18446744073709551616≤1,
 0≤l,
 0≤e,
 (0:Int)≤(0:Int),
 (0:Int)≤(1:Int)]):=by kernel_rfl
theorem aaJ (h:Int) (l:Int) (d:Int) (e:Int):cu Try.prog (X0) 100000 [.d false] 63 [D.agg [D.v (Value.int .u64 h),D.v (Value.int .u64 l)],
 D.agg [D.v (Value.int .u64 d),D.v (Value.int .u64 e)]]=some (D.bF
 [D.agg
   [D.v (Value.int .u64 ((h+d+(l+e+0) / 18446744073709551616)%18446744073709551616)),
    D.v (Value.int .u64 ((l+e+0)%18446744073709551616))],
  D.v (Value.int .i64 0)],[ai .neq ((h+d+(l+e+0) / 18446744073709551616) / 18446744073709551616) 0=false,
 0≤h,
 0≤d,
 0≤(l+e+0) / 18446744073709551616,
 (l+e+0) / 18446744073709551616≤1,
 0≤l,
 0≤e,
 (0:Int)≤(0:Int),
 (0:Int)≤(1:Int)]):=by kernel_rfl
theorem PY (h:Int) (l:Int) (d:Int) (e:Int) (res:D)
 (h0:((ai .neq ((h+d+(l+e+0) / 18446744073709551616) / 18446744073709551616) 0)=true)→((0≤h)∧(0≤d)∧(0≤(l+e+0) / 18446744073709551616)∧((l+e+0) / 18446744073709551616≤1)∧(0≤l)∧(0≤e)∧((0:Int)≤(0:Int))∧((0:Int)≤(1:Int))∧True)∧res=D.bF [D.agg [D.v (Value.int .u64 0),D.v (Value.int .u64 0)],D.v (Value.int .i64 16)])
 (h1:((ai .neq ((h+d+(l+e+0) / 18446744073709551616) / 18446744073709551616) 0)=false)→((0≤h)∧(0≤d)∧(0≤(l+e+0) / 18446744073709551616)∧((l+e+0) / 18446744073709551616≤1)∧(0≤l)∧(0≤e)∧((0:Int)≤(0:Int))∧((0:Int)≤(1:Int))∧True)∧res=D.bF
 [D.agg
   [D.v (Value.int .u64 ((h+d+(l+e+0) / 18446744073709551616)%18446744073709551616)),
    D.v (Value.int .u64 ((l+e+0)%18446744073709551616))],
  D.v (Value.int .i64 0)]):
 CallsD Try.prog 63 [D.agg [D.v (Value.int .u64 h),D.v (Value.int .u64 l)],
 D.agg [D.v (Value.int .u64 d),D.v (Value.int .u64 e)]] res:=by
 cases e0:(ai .neq ((h+d+(l+e+0) / 18446744073709551616) / 18446744073709551616) 0) with
 |true=>
  exact aV (hX0) (acj h l d e) ⟨e0,(h0 e0).1.1,(h0 e0).1.2.1,(h0 e0).1.2.2.1,(h0 e0).1.2.2.2.1,(h0 e0).1.2.2.2.2.1,(h0 e0).1.2.2.2.2.2.1,(h0 e0).1.2.2.2.2.2.2.1,(h0 e0).1.2.2.2.2.2.2.2.1,trivial⟩ (h0 e0).2
 |false=>
  exact aV (hX0) (aaJ h l d e) ⟨e0,(h1 e0).1.1,(h1 e0).1.2.1,(h1 e0).1.2.2.1,(h1 e0).1.2.2.2.1,(h1 e0).1.2.2.2.2.1,(h1 e0).1.2.2.2.2.2.1,(h1 e0).1.2.2.2.2.2.2.1,(h1 e0).1.2.2.2.2.2.2.2.1,trivial⟩ (h1 e0).2
theorem aax (h:Int) (l:Int) (d:Int) (e:Int):cu Try.prog (X0) 100000 [.d true, .d true, .c 3] 79 [D.agg [D.v (Value.int .u64 h),D.v (Value.int .u64 l)],
 D.agg [D.v (Value.int .u64 d),D.v (Value.int .u64 e)]]=some (D.bF [D.agg [D.v (Value.int .u64 0),D.v (Value.int .u64 0)],D.v (Value.int .i64 16)],[ai .gtr d (aj .sub .u64 18446744073709551615 h)=true,
 ai .gtr e (aj .sub .u64 18446744073709551615 l)=true]):=by kernel_rfl
theorem abh (h:Int) (l:Int) (d:Int) (e:Int):cu Try.prog (X0) 100000 [.d true, .d false, .c 8, .d true] 79 [D.agg [D.v (Value.int .u64 h),D.v (Value.int .u64 l)],
 D.agg [D.v (Value.int .u64 d),D.v (Value.int .u64 e)]]=some (D.bF [D.agg [D.v (Value.int .u64 0),D.v (Value.int .u64 0)],D.v (Value.int .i64 16)],[ai .eql (aj .add .u64 h d) 18446744073709551615=true,
 ai .gtr d (aj .sub .u64 18446744073709551615 h)=false,
 ai .gtr e (aj .sub .u64 18446744073709551615 l)=true]):=by kernel_rfl
theorem aci (h:Int) (l:Int) (d:Int) (e:Int):cu Try.prog (X0) 100000 [.d true, .d false, .c 8, .d false] 79 [D.agg [D.v (Value.int .u64 h),D.v (Value.int .u64 l)],
 D.agg [D.v (Value.int .u64 d),D.v (Value.int .u64 e)]]=some (D.bF
 [D.agg
   [D.v (Value.int .u64 (aj .add .u64 (aj .add .u64 h d) 1)),
    D.v (Value.int .u64 (aj .add .u64 l e))],
  D.v (Value.int .i64 0)],[ai .eql (aj .add .u64 h d) 18446744073709551615=false,
 ai .gtr d (aj .sub .u64 18446744073709551615 h)=false,
 ai .gtr e (aj .sub .u64 18446744073709551615 l)=true]):=by kernel_rfl
theorem aac (h:Int) (l:Int) (d:Int) (e:Int):cu Try.prog (X0) 100000 [.d false, .d true, .c 3] 79 [D.agg [D.v (Value.int .u64 h),D.v (Value.int .u64 l)],
 D.agg [D.v (Value.int .u64 d),D.v (Value.int .u64 e)]]=some (D.bF [D.agg [D.v (Value.int .u64 0),D.v (Value.int .u64 0)],D.v (Value.int .i64 16)],[ai .gtr d (aj .sub .u64 18446744073709551615 h)=true,
 ai .gtr e (aj .sub .u64 18446744073709551615 l)=false]):=by kernel_rfl
theorem aan (h:Int) (l:Int) (d:Int) (e:Int):cu Try.prog (X0) 100000 [.d false, .d false, .c 9] 79 [D.agg [D.v (Value.int .u64 h),D.v (Value.int .u64 l)],
 D.agg [D.v (Value.int .u64 d),D.v (Value.int .u64 e)]]=some (D.bF
 [D.agg
   [D.v (Value.int .u64 (aj .add .u64 (aj .add .u64 h d) 0)),
    D.v (Value.int .u64 (aj .add .u64 l e))],
  D.v (Value.int .i64 0)],[ai .gtr d (aj .sub .u64 18446744073709551615 h)=false,
 ai .gtr e (aj .sub .u64 18446744073709551615 l)=false]):=by kernel_rfl
theorem Qu (h:Int) (l:Int) (d:Int) (e:Int) (res:D)
 (h0:((ai .gtr e (aj .sub .u64 18446744073709551615 l))=true)→((ai .gtr d (aj .sub .u64 18446744073709551615 h))=true)→(True)∧res=D.bF [D.agg [D.v (Value.int .u64 0),D.v (Value.int .u64 0)],D.v (Value.int .i64 16)])
 (h1:((ai .gtr e (aj .sub .u64 18446744073709551615 l))=true)→((ai .gtr d (aj .sub .u64 18446744073709551615 h))=false)→((ai .eql (aj .add .u64 h d) 18446744073709551615)=true)→(True)∧res=D.bF [D.agg [D.v (Value.int .u64 0),D.v (Value.int .u64 0)],D.v (Value.int .i64 16)])
 (h2:((ai .gtr e (aj .sub .u64 18446744073709551615 l))=true)→((ai .gtr d (aj .sub .u64 18446744073709551615 h))=false)→((ai .eql (aj .add .u64 h d) 18446744073709551615)=false)→(True)∧res=D.bF
 [D.agg
   [D.v (Value.int .u64 (aj .add .u64 (aj .add .u64 h d) 1)),
    D.v (Value.int .u64 (aj .add .u64 l e))],
  D.v (Value.int .i64 0)])
 (h3:((ai .gtr e (aj .sub .u64 18446744073709551615 l))=false)→((ai .gtr d (aj .sub .u64 18446744073709551615 h))=true)→(True)∧res=D.bF [D.agg [D.v (Value.int .u64 0),D.v (Value.int .u64 0)],D.v (Value.int .i64 16)])
 (h4:((ai .gtr e (aj .sub .u64 18446744073709551615 l))=false)→((ai .gtr d (aj .sub .u64 18446744073709551615 h))=false)→(True)∧res=D.bF
 [D.agg
   [D.v (Value.int .u64 (aj .add .u64 (aj .add .u64 h d) 0)),
    D.v (Value.int .u64 (aj .add .u64 l e))],
  D.v (Value.int .i64 0)]):
 CallsD Try.prog 79 [D.agg [D.v (Value.int .u64 h),D.v (Value.int .u64 l)],
 D.agg [D.v (Value.int .u64 d),D.v (Value.int .u64 e)]] res:=by
 cases e0:(ai .gtr e (aj .sub .u64 18446744073709551615 l)) with
 |true=>
  cases e1:(ai .gtr d (aj .sub .u64 18446744073709551615 h)) with
  |true=>
   exact aV (hX0) (aax h l d e) ⟨e1,e0,trivial⟩ (h0 e0 e1).2
  |false=>
   cases e2:(ai .eql (aj .add .u64 h d) 18446744073709551615) with
   |true=>
    exact aV (hX0) (abh h l d e) ⟨e2,e1,e0,trivial⟩ (h1 e0 e1 e2).2
   |false=>
    exact aV (hX0) (aci h l d e) ⟨e2,e1,e0,trivial⟩ (h2 e0 e1 e2).2
 |false=>
  cases e1:(ai .gtr d (aj .sub .u64 18446744073709551615 h)) with
  |true=>
   exact aV (hX0) (aac h l d e) ⟨e1,e0,trivial⟩ (h3 e0 e1).2
  |false=>
   exact aV (hX0) (aan h l d e) ⟨e1,e0,trivial⟩ (h4 e0 e1).2
theorem aaG (h:Int) (l:Int) (d:Int) (e:Int):cu Try.prog (X0) 100000 [.d true, .c 6] 82 [D.agg [D.v (Value.int .u64 h),D.v (Value.int .u64 l)],
 D.agg [D.v (Value.int .u64 d),D.v (Value.int .u64 e)]]=some (D.v (Value.int .i64 (-1)),[ai .lss h d=true]):=by kernel_rfl
theorem abU (h:Int) (l:Int) (d:Int) (e:Int):cu Try.prog (X0) 100000 [.d false, .c 4, .d true, .c 4, .d true] 82 [D.agg [D.v (Value.int .u64 h),D.v (Value.int .u64 l)],
 D.agg [D.v (Value.int .u64 d),D.v (Value.int .u64 e)]]=some (D.v (Value.int .i64 (-1)),[ai .lss l e=true,
 ai .eql h d=true,
 ai .lss h d=false]):=by kernel_rfl
theorem aaP (h:Int) (l:Int) (d:Int) (e:Int):cu Try.prog (X0) 100000 [.d false, .c 4, .d true, .c 4, .d false, .d true] 82 [D.agg [D.v (Value.int .u64 h),D.v (Value.int .u64 l)],
 D.agg [D.v (Value.int .u64 d),D.v (Value.int .u64 e)]]=some (D.v (Value.int .i64 0),[(h ==d && (l ==e && true))=true,
 ai .lss l e=false,
 ai .eql h d=true,
 ai .lss h d=false]):=by kernel_rfl
theorem abQ (h:Int) (l:Int) (d:Int) (e:Int):cu Try.prog (X0) 100000 [.d false, .c 4, .d true, .c 4, .d false, .d false] 82 [D.agg [D.v (Value.int .u64 h),D.v (Value.int .u64 l)],
 D.agg [D.v (Value.int .u64 d),D.v (Value.int .u64 e)]]=some (D.v (Value.int .i64 1),[(h ==d && (l ==e && true))=false,
 ai .lss l e=false,
 ai .eql h d=true,
 ai .lss h d=false]):=by kernel_rfl
theorem abg (h:Int) (l:Int) (d:Int) (e:Int):cu Try.prog (X0) 100000 [.d false, .c 4, .d false, .c 5, .d true] 82 [D.agg [D.v (Value.int .u64 h),D.v (Value.int .u64 l)],
 D.agg [D.v (Value.int .u64 d),D.v (Value.int .u64 e)]]=some (D.v (Value.int .i64 0),[(h ==d && (l ==e && true))=true,
 ai .eql h d=false,
 ai .lss h d=false]):=by kernel_rfl
theorem abb (h:Int) (l:Int) (d:Int) (e:Int):cu Try.prog (X0) 100000 [.d false, .c 4, .d false, .c 5, .d false] 82 [D.agg [D.v (Value.int .u64 h),D.v (Value.int .u64 l)],
 D.agg [D.v (Value.int .u64 d),D.v (Value.int .u64 e)]]=some (D.v (Value.int .i64 1),[(h ==d && (l ==e && true))=false,
 ai .eql h d=false,
 ai .lss h d=false]):=by kernel_rfl
theorem Rk (h:Int) (l:Int) (d:Int) (e:Int) (res:D)
 (h0:((ai .lss h d)=true)→(True)∧res=D.v (Value.int .i64 (-1)))
 (h1:((ai .lss h d)=false)→((ai .eql h d)=true)→((ai .lss l e)=true)→(True)∧res=D.v (Value.int .i64 (-1)))
 (h2:((ai .lss h d)=false)→((ai .eql h d)=true)→((ai .lss l e)=false)→((h ==d && (l ==e && true))=true)→(True)∧res=D.v (Value.int .i64 0))
 (h3:((ai .lss h d)=false)→((ai .eql h d)=true)→((ai .lss l e)=false)→((h ==d && (l ==e && true))=false)→(True)∧res=D.v (Value.int .i64 1))
 (h4:((ai .lss h d)=false)→((ai .eql h d)=false)→((h ==d && (l ==e && true))=true)→(True)∧res=D.v (Value.int .i64 0))
 (h5:((ai .lss h d)=false)→((ai .eql h d)=false)→((h ==d && (l ==e && true))=false)→(True)∧res=D.v (Value.int .i64 1)):
 CallsD Try.prog 82 [D.agg [D.v (Value.int .u64 h),D.v (Value.int .u64 l)],
 D.agg [D.v (Value.int .u64 d),D.v (Value.int .u64 e)]] res:=by
 cases e0:(ai .lss h d) with
 |true=>
  exact aV (hX0) (aaG h l d e) ⟨e0,trivial⟩ (h0 e0).2
 |false=>
  cases e1:(ai .eql h d) with
  |true=>
   cases e2:(ai .lss l e) with
   |true=>
    exact aV (hX0) (abU h l d e) ⟨e2,e1,e0,trivial⟩ (h1 e0 e1 e2).2
   |false=>
    cases e3:(h ==d && (l ==e && true)) with
    |true=>
     exact aV (hX0) (aaP h l d e) ⟨e3,e2,e1,e0,trivial⟩ (h2 e0 e1 e2 e3).2
    |false=>
     exact aV (hX0) (abQ h l d e) ⟨e3,e2,e1,e0,trivial⟩ (h3 e0 e1 e2 e3).2
  |false=>
   cases e2:(h ==d && (l ==e && true)) with
   |true=>
    exact aV (hX0) (abg h l d e) ⟨e2,e1,e0,trivial⟩ (h4 e0 e1 e2).2
   |false=>
    exact aV (hX0) (abb h l d e) ⟨e2,e1,e0,trivial⟩ (h5 e0 e1 e2).2
theorem YZ (h:Int) (l:Int) (d:Int) (e:Int):cu Try.prog (X0) 100000 [.d true] 96 [D.agg [D.v (Value.int .u64 h),D.v (Value.int .u64 l)],
 D.agg [D.v (Value.int .u64 d),D.v (Value.int .u64 e)]]=some (D.agg
 [D.v (Value.int .u64 (aj .sub .u64 (aj .sub .u64 h d) 1)),
  D.v (Value.int .u64 (aj .sub .u64 l e))],[ai .gtr e l=true]):=by kernel_rfl
theorem ZO (h:Int) (l:Int) (d:Int) (e:Int):cu Try.prog (X0) 100000 [.d false] 96 [D.agg [D.v (Value.int .u64 h),D.v (Value.int .u64 l)],
 D.agg [D.v (Value.int .u64 d),D.v (Value.int .u64 e)]]=some (D.agg
 [D.v (Value.int .u64 (aj .sub .u64 h d)),
  D.v (Value.int .u64 (aj .sub .u64 l e))],[ai .gtr e l=false]):=by kernel_rfl
theorem Nk (h:Int) (l:Int) (d:Int) (e:Int) (res:D)
 (h0:((ai .gtr e l)=true)→(True)∧res=D.agg
 [D.v (Value.int .u64 (aj .sub .u64 (aj .sub .u64 h d) 1)),
  D.v (Value.int .u64 (aj .sub .u64 l e))])
 (h1:((ai .gtr e l)=false)→(True)∧res=D.agg
 [D.v (Value.int .u64 (aj .sub .u64 h d)),
  D.v (Value.int .u64 (aj .sub .u64 l e))]):
 CallsD Try.prog 96 [D.agg [D.v (Value.int .u64 h),D.v (Value.int .u64 l)],
 D.agg [D.v (Value.int .u64 d),D.v (Value.int .u64 e)]] res:=by
 cases e0:(ai .gtr e l) with
 |true=>
  exact aV (hX0) (YZ h l d e) ⟨e0,trivial⟩ (h0 e0).2
 |false=>
  exact aV (hX0) (ZO h l d e) ⟨e0,trivial⟩ (h1 e0).2
abbrev i64 (n:Int):D:= .v (.int .i64 n)
abbrev u64 (n:Int):D:= .v (.int .u64 n)
def DT (b r p:Int):Int:=if b<1∨1000000000<b∨r<0∨1000000000<r∨p<1∨1000000000<p then 8 else 0
theorem abo (b r p:Int):CallsD Try.prog 40 [.agg [i64 b,i64 r,i64 p]] (i64 (DT b r p)):=by
 refine Qq b r p _ ?_ ?_ ?_ ?_ ?_ ?_ ?_<;>(intros;simp only[aQ,aX,dV,gI] at *;refine⟨trivial,?_⟩;unfold DT;first | rw[if_pos (by omega)] | rw[if_neg (by omega)])
theorem aaT (b r p:Int):CallsD Try.prog 46 [.agg [i64 b,i64 r,i64 p]] (i64 (DT b r p)):=by
 refine Pq b r p _ ?_ ?_ ?_ ?_ ?_ ?_ ?_<;>(intros;simp only[aQ,aX,dV,gI] at *;refine⟨trivial,?_⟩;unfold DT;first | rw[if_pos (by omega)] | rw[if_neg (by omega)])
def wd (s:Int):D:= .agg [u64 (s / 18446744073709551616),u64 (s%18446744073709551616)]
def ZB (s:Int):D:= .bF [wd (if s<340282366920938463463374607431768211456 then s else 0),i64 (if s<340282366920938463463374607431768211456 then 0 else 16)]
theorem aa2 (h l d e:Int) (h0:0≤h) (h1:h<18446744073709551616) (l0:0≤l) (l1:l<18446744073709551616) (d0:0≤d) (d1:d<18446744073709551616) (e0:0≤e) (e1:e<18446744073709551616):
  CallsD Try.prog 63 [.agg [u64 h,u64 l], .agg [u64 d,u64 e]] (ZB (h*18446744073709551616+l+(d*18446744073709551616+e))):=by
 refine PY h l d e _ ?_ ?_
 ·intro a
  simp only[aP] at a
  refine⟨⟨by omega,by omega,by omega,by omega,by omega,by omega,by omega,by omega,trivial⟩,?_⟩
  unfold ZB
  rw[if_neg (by omega),if_neg (by omega)];rfl
 ·intro a
  simp only[aY] at a
  refine⟨⟨by omega,by omega,by omega,by omega,by omega,by omega,by omega,by omega,trivial⟩,?_⟩
  unfold ZB wd
  rw[if_pos (by omega),if_pos (by omega)]
  simp only[D.bF.injEq,D.agg.injEq,List.cons.injEq,D.v.injEq,Value.int.injEq,and_true,true_and]
  omega
theorem aaW (h l d e:Int) (h0:0≤h) (h1:h<18446744073709551616) (l0:0≤l) (l1:l<18446744073709551616) (d0:0≤d) (d1:d<18446744073709551616) (e0:0≤e) (e1:e<18446744073709551616):
  CallsD Try.prog 79 [.agg [u64 h,u64 l], .agg [u64 d,u64 e]] (ZB (h*18446744073709551616+l+(d*18446744073709551616+e))):=by
 refine Qu h l d e _ ?_ ?_ ?_ ?_ ?_
 all_goals
  intros
  simp only[aQ,aX,dV,gI,iM,je,dX,eY,wrap_u64] at *
  refine⟨trivial,?_⟩
  unfold ZB wd
  first
   |(rw[if_neg (by omega),if_neg (by omega)];rfl)
   |(rw[if_pos (by omega),if_pos (by omega)];simp only[D.bF.injEq,D.agg.injEq,List.cons.injEq,D.v.injEq,Value.int.injEq,and_true,true_and];omega)
def nM (x y:Int):Int:=if x<y then -1 else if x=y then 0 else 1
theorem aaV (h l d e:Int) (l0:0≤l) (l1:l<18446744073709551616) (e0:0≤e) (e1:e<18446744073709551616):
  CallsD Try.prog 82 [.agg [u64 h,u64 l], .agg [u64 d,u64 e]] (i64 (nM (h*18446744073709551616+l) (d*18446744073709551616+e))):=by
 refine Rk h l d e _ ?_ ?_ ?_ ?_ ?_ ?_
 all_goals
  intros
  simp only[aQ,aX,dV,gI,iM,je,Bool.and_true,Bool.and_eq_true,Bool.and_eq_false_iff,beq_iff_eq,beq_eq_false_iff_ne,ne_eq] at *
  refine⟨trivial,?_⟩
  simp only[nM,D.v.injEq,Value.int.injEq,true_and]
  split
  ·omega
  ·split<;>omega
theorem ZG (h l d e:Int) (h1:h<18446744073709551616) (l0:0≤l) (l1:l<18446744073709551616) (d0:0≤d) (e0:0≤e) (e1:e<18446744073709551616) (hle:d*18446744073709551616+e≤h*18446744073709551616+l):
  CallsD Try.prog 96 [.agg [u64 h,u64 l], .agg [u64 d,u64 e]] (wd (h*18446744073709551616+l - (d*18446744073709551616+e))):=by
 refine Nk h l d e _ ?_ ?_
 all_goals
  intros
  simp only[aQ,aX,dV,gI,iM,je,eY,wrap_u64] at *
  refine⟨trivial,?_⟩
  simp only[wd,D.bF.injEq,D.agg.injEq,List.cons.injEq,D.v.injEq,Value.int.injEq,and_true,true_and]
  omega
end MeterS
end

section
namespace MeterS
open Go Go.Dam Go.Proofs
set_option maxRecDepth 1000000
theorem zX (x:Int):aj .shr .u64 x 32=x / 4294967296:=by
 rw[zN (by decide) (by decide)];rfl
theorem XG {x:Int} (h0:0≤x) (h1:x<18446744073709551616):aj .and .u64 x 4294967295=x%4294967296:=mO 32 (by decide) h0 h1
theorem qc {p q:Int} (h0:0≤p*q) (h1:p*q<18446744073709551616):aj .mul .u64 p q=p*q:=by rw[kP,wrap_u64];omega
theorem nK {p q:Int} (h0:0≤p+q) (h1:p+q<18446744073709551616):aj .add .u64 p q=p+q:=by rw[dX,wrap_u64];omega
theorem HY {x:Int} (h0:0≤x) (h1:x<18446744073709551616):aj .quo .u64 x 4294967296=x / 4294967296:=by rw[Kq _ h0,wrap_u64];omega
theorem H8 {x:Int} (h0:0≤x):aj .rem .u64 x 4294967296=x%4294967296:=CG _ h0
theorem qU {a b:Int} (a0:0≤a) (a1:a<4294967296) (b0:0≤b) (b1:b<4294967296):0≤a*b∧a*b≤18446744065119617025:=
 ⟨Int.mul_nonneg a0 b0,by
  have:=Int.mul_le_mul (show a≤4294967295 by omega) (show b≤4294967295 by omega) b0 (by decide)
  omega⟩
theorem Jg (x y:Int):x*y=(x / 4294967296)*(y / 4294967296)*18446744073709551616+((x / 4294967296)*(y%4294967296)+(x%4294967296)*(y / 4294967296))*4294967296+(x%4294967296)*(y%4294967296):=by
 have hx:x=x / 4294967296*4294967296+x%4294967296:=by omega
 have hy:y=y / 4294967296*4294967296+y%4294967296:=by omega
 generalize x / 4294967296=a at *
 generalize x%4294967296=b at *
 generalize y / 4294967296=c at *
 generalize y%4294967296=d at *
 subst hx;subst hy
 rw[Int.add_mul,Int.mul_add,Int.mul_add]
 have e1:a*4294967296*(c*4294967296)=a*c*18446744073709551616:=by rw[Int.mul_assoc,Int.mul_left_comm 4294967296 c,←Int.mul_assoc];rfl
 have e2:a*4294967296*d=a*d*4294967296:=by rw[Int.mul_assoc,Int.mul_comm 4294967296 d,←Int.mul_assoc]
 have e3:b*(c*4294967296)=b*c*4294967296:=by rw[←Int.mul_assoc]
 rw[e1,e2,e3]
 omega
variable [gB]
theorem abK (x y:Int) (x0:0≤x) (x1:x<18446744073709551616) (y0:0≤y) (y1:y<18446744073709551616):CallsD Try.prog 64 [u64 x,u64 y] (wd (x*y)):=by
 refine Ru x y _ ⟨trivial,?_⟩
 have hm:=Jg x y
 have p1:=qU (a:=x / 4294967296) (b:=y / 4294967296) (by omega) (by omega) (by omega) (by omega)
 have p2:=qU (a:=x / 4294967296) (b:=y%4294967296) (by omega) (by omega) (by omega) (by omega)
 have p3:=qU (a:=x%4294967296) (b:=y / 4294967296) (by omega) (by omega) (by omega) (by omega)
 have p4:=qU (a:=x%4294967296) (b:=y%4294967296) (by omega) (by omega) (by omega) (by omega)
 have lo:aj .mul .u64 x y=x*y%18446744073709551616:=wrap_u64 _
 rw[lo,zX,zX,XG y0 y1,XG x0 x1]
 generalize x*y=z at *
 rw[qc p1.1 (by omega),qc p2.1 (by omega),qc p3.1 (by omega),qc p4.1 (by omega)]
 generalize (x / 4294967296)*(y / 4294967296)=p at *
 generalize (x / 4294967296)*(y%4294967296)=q at *
 generalize (x%4294967296)*(y / 4294967296)=r at *
 generalize (x%4294967296)*(y%4294967296)=s at *
 rw[zX s,nK (p:=q) (q:=s / 4294967296) (by omega) (by omega),XG (x:=q+s / 4294967296) (by omega) (by omega)]
 rw[nK (p:=(q+s / 4294967296)%4294967296) (q:=r) (by omega) (by omega),zX,zX]
 rw[nK (p:=p) (q:=(q+s / 4294967296) / 4294967296) (by omega) (by omega),nK (by omega) (by omega)]
 simp only[wd,D.bF.injEq,D.agg.injEq,List.cons.injEq,D.v.injEq,Value.int.injEq,and_true,true_and]
 omega
theorem Z5 (x y:Int) (x0:0≤x) (x1:x<18446744073709551616) (y0:0≤y) (y1:y<18446744073709551616):CallsD Try.prog 80 [u64 x,u64 y] (wd (x*y)):=by
 refine Ro x y _ ⟨trivial,?_⟩
 have hm:=Jg x y
 have p1:=qU (a:=x / 4294967296) (b:=y / 4294967296) (by omega) (by omega) (by omega) (by omega)
 have p2:=qU (a:=x / 4294967296) (b:=y%4294967296) (by omega) (by omega) (by omega) (by omega)
 have p3:=qU (a:=x%4294967296) (b:=y / 4294967296) (by omega) (by omega) (by omega) (by omega)
 have p4:=qU (a:=x%4294967296) (b:=y%4294967296) (by omega) (by omega) (by omega) (by omega)
 rw[HY x0 x1,HY y0 y1,H8 x0,H8 y0]
 generalize x*y=z at *
 rw[qc p1.1 (by omega),qc p2.1 (by omega),qc p3.1 (by omega),qc p4.1 (by omega)]
 generalize (x / 4294967296)*(y / 4294967296)=p at *
 generalize (x / 4294967296)*(y%4294967296)=q at *
 generalize (x%4294967296)*(y / 4294967296)=r at *
 generalize (x%4294967296)*(y%4294967296)=s at *
 rw[HY p2.1 (by omega),HY p3.1 (by omega),HY p4.1 (by omega),H8 p2.1,H8 p3.1,H8 p4.1]
 rw[nK (p:=s / 4294967296) (q:=q%4294967296) (by omega) (by omega),nK (p:=s / 4294967296+q%4294967296) (q:=r%4294967296) (by omega) (by omega)]
 generalize hu:s / 4294967296+q%4294967296+r%4294967296=u at *
 rw[HY (x:=u) (by omega) (by omega),H8 (x:=u) (by omega),qc (p:=u%4294967296) (q:=4294967296) (by omega) (by omega)]
 rw[nK (p:=u%4294967296*4294967296) (q:=s%4294967296) (by omega) (by omega)]
 rw[nK (p:=p) (q:=q / 4294967296) (by omega) (by omega),nK (p:=p+q / 4294967296) (q:=r / 4294967296) (by omega) (by omega),nK (p:=p+q / 4294967296+r / 4294967296) (q:=u / 4294967296) (by omega) (by omega)]
 simp only[wd,D.bF.injEq,D.agg.injEq,List.cons.injEq,D.v.injEq,Value.int.injEq,and_true,true_and]
 omega
end MeterS
end

section
namespace MeterS
open Go Go.Dam Go.Proofs
set_option maxRecDepth 1000000
def gQ:List Nat:=0::1::(List.replicate 2 2 ++ List.replicate 4 3 ++ List.replicate 8 4 ++ List.replicate 16 5 ++ List.replicate 32 6 ++ List.replicate 64 7 ++ List.replicate 128 8)
theorem UX:gQ=(List.range 256).map fun i=>if i=0 then 0 else Nat.log2 i+1:=by decide +kernel
def aK (n:Nat):Nat:=if n=0 then 0 else Nat.log2 n+1
theorem Qa (i:Nat) (h:i<256):gQ.getD i 0=aK i:=by
 rw[UX,List.getD_eq_getElem?_getD,List.getElem?_map,List.getElem?_range h];rfl
theorem eF (n k:Nat) (h:0<n / 2 ^ k):aK n=aK (n / 2 ^ k)+k:=by
 have hn:n≠0:=by rintro rfl;simp at h
 unfold aK
 rw[if_neg hn,if_neg (by omega)]
 have h1:n / 2 ^ k≠0:=by omega
 have e:Nat.log2 n=Nat.log2 (n / 2 ^ k)+k:=by
  rw[Nat.log2_eq_iff hn]
  have h2:=Nat.log2_self_le h1
  have h3:=Nat.lt_log2_self (n:=n / 2 ^ k)
  have hp:0<2 ^ k:=Nat.two_pow_pos k
  constructor
  ·rw[Nat.pow_add]
   exact Nat.le_trans (Nat.mul_le_mul_right _ h2) (Nat.div_mul_le_self n _)
  ·rw[show Nat.log2 (n / 2 ^ k)+k+1=(Nat.log2 (n / 2 ^ k)+1)+k by omega,Nat.pow_add]
   rw[←Nat.div_lt_iff_lt_mul hp]
   exact h3
 omega
theorem Cc (n:Nat) (k:Nat) (h:n<2 ^ k):aK n≤k:=by
 unfold aK
 split
 ·omega
 next hn=>have:=(Nat.log2_lt hn).2 h;omega
theorem N7 (n:Nat) (h:0<n):2 ^ (aK n - 1)≤n∧n<2 ^ aK n∧0<aK n:=by
 unfold aK
 rw[if_neg (by omega)]
 exact⟨Nat.log2_self_le (by omega),Nat.lt_log2_self,by omega⟩
theorem XK (x:Int) (k:Nat) (hk:k≤64):aj .shr .u64 x k=x / 2 ^ k:=by rw[zN (by omega) (by omega)];rfl
variable [gB]
theorem ZI (x:Int):cu Try.prog (X0) 100000 [.d true, .d true, .d true] 101 [D.v (Value.int .u64 x)]=some (D.v
 (Value.int .i64
  (aj .add .i64 56
   (IntKind.i64.wrap
    ↑(gQ.getD
      (IntKind.u8.wrap
        (aj .shr .u64 (aj .shr .u64 (aj .shr .u64 x 32) 16) 8)).toNat
      0)))),[decide
  (0≤
   IntKind.u8.wrap (aj .shr .u64 (aj .shr .u64 (aj .shr .u64 x 32) 16) 8)) =
 true,
 decide
  (IntKind.u8.wrap (aj .shr .u64 (aj .shr .u64 (aj .shr .u64 x 32) 16) 8) <
   256) =
 true,
 true=true,
 ai .geq (aj .shr .u64 (aj .shr .u64 x 32) 16) 256=true,
 true=true,
 ai .geq (aj .shr .u64 x 32) 65536=true,
 true=true,
 ai .geq x 4294967296=true]):=by kernel_rfl
theorem YF (x:Int):cu Try.prog (X0) 100000 [.d true, .d true, .d false] 101 [D.v (Value.int .u64 x)]=some (D.v
 (Value.int .i64
  (aj .add .i64 48
   (IntKind.i64.wrap
    ↑(gQ.getD
      (IntKind.u8.wrap (aj .shr .u64 (aj .shr .u64 x 32) 16)).toNat 0)))),[decide (0≤IntKind.u8.wrap (aj .shr .u64 (aj .shr .u64 x 32) 16))=true,
 decide
  (IntKind.u8.wrap (aj .shr .u64 (aj .shr .u64 x 32) 16) <
   256) =
 true,
 ai .geq (aj .shr .u64 (aj .shr .u64 x 32) 16) 256=false,
 true=true,
 ai .geq (aj .shr .u64 x 32) 65536=true,
 true=true,
 ai .geq x 4294967296=true]):=by kernel_rfl
theorem ZN (x:Int):cu Try.prog (X0) 100000 [.d true, .d false, .d true] 101 [D.v (Value.int .u64 x)]=some (D.v
 (Value.int .i64
  (aj .add .i64 40
   (IntKind.i64.wrap
    ↑(gQ.getD
      (IntKind.u8.wrap (aj .shr .u64 (aj .shr .u64 x 32) 8)).toNat 0)))),[decide (0≤IntKind.u8.wrap (aj .shr .u64 (aj .shr .u64 x 32) 8))=true,
 decide
  (IntKind.u8.wrap (aj .shr .u64 (aj .shr .u64 x 32) 8) <
   256) =
 true,
 true=true,
 ai .geq (aj .shr .u64 x 32) 256=true,
 ai .geq (aj .shr .u64 x 32) 65536=false,
 true=true,
 ai .geq x 4294967296=true]):=by kernel_rfl
theorem WO (x:Int):cu Try.prog (X0) 100000 [.d true, .d false, .d false] 101 [D.v (Value.int .u64 x)]=some (D.v
 (Value.int .i64
  (aj .add .i64 32
   (IntKind.i64.wrap
    ↑(gQ.getD
      (IntKind.u8.wrap (aj .shr .u64 x 32)).toNat 0)))),[decide (0≤IntKind.u8.wrap (aj .shr .u64 x 32))=true,
 decide
  (IntKind.u8.wrap (aj .shr .u64 x 32) <
   256) =
 true,
 ai .geq (aj .shr .u64 x 32) 256=false,
 ai .geq (aj .shr .u64 x 32) 65536=false,
 true=true,
 ai .geq x 4294967296=true]):=by kernel_rfl
theorem YL (x:Int):cu Try.prog (X0) 100000 [.d false, .d true, .d true] 101 [D.v (Value.int .u64 x)]=some (D.v
 (Value.int .i64
  (aj .add .i64 24
   (IntKind.i64.wrap
    ↑(gQ.getD
      (IntKind.u8.wrap (aj .shr .u64 (aj .shr .u64 x 16) 8)).toNat 0)))),[decide (0≤IntKind.u8.wrap (aj .shr .u64 (aj .shr .u64 x 16) 8))=true,
 decide
  (IntKind.u8.wrap (aj .shr .u64 (aj .shr .u64 x 16) 8) <
   256) =
 true,
 true=true,
 ai .geq (aj .shr .u64 x 16) 256=true,
 true=true,
 ai .geq x 65536=true,
 ai .geq x 4294967296=false]):=by kernel_rfl
theorem Wx (x:Int):cu Try.prog (X0) 100000 [.d false, .d true, .d false] 101 [D.v (Value.int .u64 x)]=some (D.v
 (Value.int .i64
  (aj .add .i64 16
   (IntKind.i64.wrap
    ↑(gQ.getD
      (IntKind.u8.wrap (aj .shr .u64 x 16)).toNat 0)))),[decide (0≤IntKind.u8.wrap (aj .shr .u64 x 16))=true,
 decide
  (IntKind.u8.wrap (aj .shr .u64 x 16) <
   256) =
 true,
 ai .geq (aj .shr .u64 x 16) 256=false,
 true=true,
 ai .geq x 65536=true,
 ai .geq x 4294967296=false]):=by kernel_rfl
theorem XY (x:Int):cu Try.prog (X0) 100000 [.d false, .d false, .d true] 101 [D.v (Value.int .u64 x)]=some (D.v
 (Value.int .i64
  (aj .add .i64 8
   (IntKind.i64.wrap
    ↑(gQ.getD
      (IntKind.u8.wrap (aj .shr .u64 x 8)).toNat 0)))),[decide (0≤IntKind.u8.wrap (aj .shr .u64 x 8))=true,
 decide
  (IntKind.u8.wrap (aj .shr .u64 x 8) <
   256) =
 true,
 true=true,
 ai .geq x 256=true,
 ai .geq x 65536=false,
 ai .geq x 4294967296=false]):=by kernel_rfl
theorem XR (x:Int):cu Try.prog (X0) 100000 [.d false, .d false, .d false] 101 [D.v (Value.int .u64 x)]=some (D.v
 (Value.int .i64
  (aj .add .i64 0
   (IntKind.i64.wrap
    ↑(gQ.getD
      (IntKind.u8.wrap x).toNat 0)))),[decide (0≤IntKind.u8.wrap x)=true,
 decide
  (IntKind.u8.wrap x <
   256) =
 true,
 ai .geq x 256=false,
 ai .geq x 65536=false,
 ai .geq x 4294967296=false]):=by kernel_rfl
theorem Na (x:Int) (res:D)
 (h0:((ai .geq x 4294967296)=true)→((ai .geq (aj .shr .u64 x 32) 65536)=true)→((ai .geq (aj .shr .u64 (aj .shr .u64 x 32) 16) 256)=true)→((decide
  (0≤
   IntKind.u8.wrap (aj .shr .u64 (aj .shr .u64 (aj .shr .u64 x 32) 16) 8)) =
 true)∧(decide
  (IntKind.u8.wrap (aj .shr .u64 (aj .shr .u64 (aj .shr .u64 x 32) 16) 8) <
   256) =
 true)∧True)∧res=D.v
 (Value.int .i64
  (aj .add .i64 56
   (IntKind.i64.wrap
    ↑(gQ.getD
      (IntKind.u8.wrap
        (aj .shr .u64 (aj .shr .u64 (aj .shr .u64 x 32) 16) 8)).toNat
      0)))))
 (h1:((ai .geq x 4294967296)=true)→((ai .geq (aj .shr .u64 x 32) 65536)=true)→((ai .geq (aj .shr .u64 (aj .shr .u64 x 32) 16) 256)=false)→((decide (0≤IntKind.u8.wrap (aj .shr .u64 (aj .shr .u64 x 32) 16))=true)∧(decide
  (IntKind.u8.wrap (aj .shr .u64 (aj .shr .u64 x 32) 16) <
   256) =
 true)∧True)∧res=D.v
 (Value.int .i64
  (aj .add .i64 48
   (IntKind.i64.wrap
    ↑(gQ.getD
      (IntKind.u8.wrap (aj .shr .u64 (aj .shr .u64 x 32) 16)).toNat 0)))))
 (h2:((ai .geq x 4294967296)=true)→((ai .geq (aj .shr .u64 x 32) 65536)=false)→((ai .geq (aj .shr .u64 x 32) 256)=true)→((decide (0≤IntKind.u8.wrap (aj .shr .u64 (aj .shr .u64 x 32) 8))=true)∧(decide
  (IntKind.u8.wrap (aj .shr .u64 (aj .shr .u64 x 32) 8) <
   256) =
 true)∧True)∧res=D.v
 (Value.int .i64
  (aj .add .i64 40
   (IntKind.i64.wrap
    ↑(gQ.getD
      (IntKind.u8.wrap (aj .shr .u64 (aj .shr .u64 x 32) 8)).toNat 0)))))
 (h3:((ai .geq x 4294967296)=true)→((ai .geq (aj .shr .u64 x 32) 65536)=false)→((ai .geq (aj .shr .u64 x 32) 256)=false)→((decide (0≤IntKind.u8.wrap (aj .shr .u64 x 32))=true)∧(decide
  (IntKind.u8.wrap (aj .shr .u64 x 32) <
   256) =
 true)∧True)∧res=D.v
 (Value.int .i64
  (aj .add .i64 32
   (IntKind.i64.wrap
    ↑(gQ.getD
      (IntKind.u8.wrap (aj .shr .u64 x 32)).toNat 0)))))
 (h4:((ai .geq x 4294967296)=false)→((ai .geq x 65536)=true)→((ai .geq (aj .shr .u64 x 16) 256)=true)→((decide (0≤IntKind.u8.wrap (aj .shr .u64 (aj .shr .u64 x 16) 8))=true)∧(decide
  (IntKind.u8.wrap (aj .shr .u64 (aj .shr .u64 x 16) 8) <
   256) =
 true)∧True)∧res=D.v
 (Value.int .i64
  (aj .add .i64 24
   (IntKind.i64.wrap
    ↑(gQ.getD
      (IntKind.u8.wrap (aj .shr .u64 (aj .shr .u64 x 16) 8)).toNat 0)))))
 (h5:((ai .geq x 4294967296)=false)→((ai .geq x 65536)=true)→((ai .geq (aj .shr .u64 x 16) 256)=false)→((decide (0≤IntKind.u8.wrap (aj .shr .u64 x 16))=true)∧(decide
  (IntKind.u8.wrap (aj .shr .u64 x 16) <
   256) =
 true)∧True)∧res=D.v
 (Value.int .i64
  (aj .add .i64 16
   (IntKind.i64.wrap
    ↑(gQ.getD
      (IntKind.u8.wrap (aj .shr .u64 x 16)).toNat 0)))))
 (h6:((ai .geq x 4294967296)=false)→((ai .geq x 65536)=false)→((ai .geq x 256)=true)→((decide (0≤IntKind.u8.wrap (aj .shr .u64 x 8))=true)∧(decide
  (IntKind.u8.wrap (aj .shr .u64 x 8) <
   256) =
 true)∧True)∧res=D.v
 (Value.int .i64
  (aj .add .i64 8
   (IntKind.i64.wrap
    ↑(gQ.getD
      (IntKind.u8.wrap (aj .shr .u64 x 8)).toNat 0)))))
 (h7:((ai .geq x 4294967296)=false)→((ai .geq x 65536)=false)→((ai .geq x 256)=false)→((decide (0≤IntKind.u8.wrap x)=true)∧(decide
  (IntKind.u8.wrap x <
   256) =
 true)∧True)∧res=D.v
 (Value.int .i64
  (aj .add .i64 0
   (IntKind.i64.wrap
    ↑(gQ.getD
      (IntKind.u8.wrap x).toNat 0))))):
 CallsD Try.prog 101 [D.v (Value.int .u64 x)] res:=by
 cases e0:(ai .geq x 4294967296) with
 |true=>
  cases e1:(ai .geq (aj .shr .u64 x 32) 65536) with
  |true=>
   cases e2:(ai .geq (aj .shr .u64 (aj .shr .u64 x 32) 16) 256) with
   |true=>
    exact aV (hX0) (ZI x) ⟨(h0 e0 e1 e2).1.1,(h0 e0 e1 e2).1.2.1,rfl,e2,rfl,e1,rfl,e0,trivial⟩ (h0 e0 e1 e2).2
   |false=>
    exact aV (hX0) (YF x) ⟨(h1 e0 e1 e2).1.1,(h1 e0 e1 e2).1.2.1,e2,rfl,e1,rfl,e0,trivial⟩ (h1 e0 e1 e2).2
  |false=>
   cases e2:(ai .geq (aj .shr .u64 x 32) 256) with
   |true=>
    exact aV (hX0) (ZN x) ⟨(h2 e0 e1 e2).1.1,(h2 e0 e1 e2).1.2.1,rfl,e2,e1,rfl,e0,trivial⟩ (h2 e0 e1 e2).2
   |false=>
    exact aV (hX0) (WO x) ⟨(h3 e0 e1 e2).1.1,(h3 e0 e1 e2).1.2.1,e2,e1,rfl,e0,trivial⟩ (h3 e0 e1 e2).2
 |false=>
  cases e1:(ai .geq x 65536) with
  |true=>
   cases e2:(ai .geq (aj .shr .u64 x 16) 256) with
   |true=>
    exact aV (hX0) (YL x) ⟨(h4 e0 e1 e2).1.1,(h4 e0 e1 e2).1.2.1,rfl,e2,rfl,e1,e0,trivial⟩ (h4 e0 e1 e2).2
   |false=>
    exact aV (hX0) (Wx x) ⟨(h5 e0 e1 e2).1.1,(h5 e0 e1 e2).1.2.1,e2,rfl,e1,e0,trivial⟩ (h5 e0 e1 e2).2
  |false=>
   cases e2:(ai .geq x 256) with
   |true=>
    exact aV (hX0) (XY x) ⟨(h6 e0 e1 e2).1.1,(h6 e0 e1 e2).1.2.1,rfl,e2,e1,e0,trivial⟩ (h6 e0 e1 e2).2
   |false=>
    exact aV (hX0) (XR x) ⟨(h7 e0 e1 e2).1.1,(h7 e0 e1 e2).1.2.1,e2,e1,e0,trivial⟩ (h7 e0 e1 e2).2
theorem Xk (n:Nat) (h:n<18446744073709551616):CallsD Try.prog 101 [u64 n] (i64 (aK n)):=by
 have tb:∀ m:Nat,m<256→gQ.getD (IntKind.wrap .u8 (m:Int)).toNat 0=aK m:=fun m hm=>by
  rw[wrap_u8,show((m:Int)%256).toNat=m by omega];exact Qa m hm
 have w:∀ m:Nat,m<256→IntKind.wrap .i64 ((aK m:Nat):Int)=(aK m:Int):=fun m hm=>by
  have:=Cc m 8 (by omega);exact aT (by omega) (by omega)
 have s32:aj .shr .u64 (n:Int) 32=((n / 2 ^ 32:Nat):Int):=by rw[zX];omega
 have s16:∀ m:Nat,aj .shr .u64 (m:Int) 16=((m / 2 ^ 16:Nat):Int):=fun m=>by rw[show(16:Int)=((16:Nat):Int) from rfl,XK _ _ (by decide)];omega
 have s8:∀ m:Nat,aj .shr .u64 (m:Int) 8=((m / 2 ^ 8:Nat):Int):=fun m=>by rw[show(8:Int)=((8:Nat):Int) from rfl,XK _ _ (by decide)];omega
 have leaf:∀ (m:Nat) (k:Int),m<256→(aK n:Int)=aK m+k→0≤k→k≤56→((0≤IntKind.wrap .u8 (m:Int))∧(IntKind.wrap .u8 (m:Int)<256)∧True)∧i64 (aK n)=D.v (.int .i64 (IntKind.wrap .i64 (k+IntKind.wrap .i64 ((gQ.getD (IntKind.wrap .u8 (m:Int)).toNat 0:Nat):Int)))):=fun m k hm he h0 h1=>by
  have hl:=Cc m 8 (by omega)
  rw[tb m hm,w m hm,aT (by omega) (by omega),wrap_u8]
  refine⟨⟨by omega,by omega,trivial⟩,?_⟩
  simp only[D.v.injEq,Value.int.injEq,true_and]
  omega
 refine Na n _ ?_ ?_ ?_ ?_ ?_ ?_ ?_ ?_
 all_goals
  intros
  simp only[iQ,iP,s32,s16,s8,decide_eq_true_eq,dX] at *
 ·have a:=eF n 32 (by omega)
  have b:=eF (n / 2 ^ 32) 16 (by omega)
  have c:=eF (n / 2 ^ 32 / 2 ^ 16) 8 (by omega)
  exact leaf _ 56 (by omega) (by omega) (by omega) (by omega)
 ·have a:=eF n 32 (by omega)
  have b:=eF (n / 2 ^ 32) 16 (by omega)
  exact leaf _ 48 (by omega) (by omega) (by omega) (by omega)
 ·have a:=eF n 32 (by omega)
  have c:=eF (n / 2 ^ 32) 8 (by omega)
  exact leaf _ 40 (by omega) (by omega) (by omega) (by omega)
 ·have a:=eF n 32 (by omega)
  exact leaf _ 32 (by omega) (by omega) (by omega) (by omega)
 ·have b:=eF n 16 (by omega)
  have c:=eF (n / 2 ^ 16) 8 (by omega)
  exact leaf _ 24 (by omega) (by omega) (by omega) (by omega)
 ·have b:=eF n 16 (by omega)
  exact leaf _ 16 (by omega) (by omega) (by omega) (by omega)
 ·have c:=eF n 8 (by omega)
  exact leaf _ 8 (by omega) (by omega) (by omega) (by omega)
 ·exact leaf _ 0 (by omega) (by omega) (by omega) (by omega)
end MeterS
end

section
namespace MeterS
open Go Go.Dam Go.Proofs
set_option maxRecDepth 1000000
variable [gB]
def ahq:List D→Option (D×List Prop)
 |[.v (.int .u64 x)]=>some (i64 (aK x.toNat),[0≤x,x<18446744073709551616])
 |_=>none
def X1:aB:=aJ 101 (.call ahq) X0
theorem hX1:bG Try.prog X1:=ax (fun args res l h hl=>by
 unfold ahq at h
 split at h
 next x=>
  simp only[Option.some.injEq,Prod.mk.injEq] at h
  obtain⟨rfl,rfl⟩:=h
  obtain⟨h0,h1,_⟩:=hl
  have:=Xk x.toNat (by omega)
  rwa[Int.toNat_of_nonneg h0] at this
 ·cases h) hX0
end MeterS
end

section
namespace MeterS
open Go Go.Dam Go.Proofs
set_option maxRecDepth 1000000
variable [gB]
theorem aaK (x:Int):cu Try.prog (X1) 100000 [] 100 [D.v (Value.int .u64 x)]=some (D.v (Value.int .i64 (aj .sub .i64 64 ↑(aK x.toNat))),[0≤x,
 x<18446744073709551616]):=by kernel_rfl
theorem Qy (x:Int) (res:D)
 (h0:((0≤x)∧(x<18446744073709551616)∧True)∧res=D.v (Value.int .i64 (aj .sub .i64 64 ↑(aK x.toNat)))):
 CallsD Try.prog 100 [D.v (Value.int .u64 x)] res:=by
 exact aV (hX1) (aaK x) ⟨(h0).1.1,(h0).1.2.1,trivial⟩ (h0).2
def lzC:List D→Option (D×List Prop)
 |[.v (.int .u64 x)]=>some (i64 (64 - aK x.toNat),[0≤x,x<18446744073709551616])
 |_=>none
def X2:aB:=aJ 100 (.call lzC) X1
theorem hX2:bG Try.prog X2:=ax (fun args res l h hl=>by
 unfold lzC at h
 split at h
 next x=>
  simp only[Option.some.injEq,Prod.mk.injEq] at h
  obtain⟨rfl,rfl⟩:=h
  obtain⟨h0,h1,_⟩:=hl
  refine Qy x _ ⟨⟨h0,h1,trivial⟩,?_⟩
  have:=Cc x.toNat 64 (by omega)
  rw[eY,aT (by omega) (by omega)]
 ·cases h) hX1
end MeterS
end
