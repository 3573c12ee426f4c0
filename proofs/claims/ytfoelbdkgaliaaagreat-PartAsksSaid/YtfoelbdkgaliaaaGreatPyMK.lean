/- What the functions compute, and the law. No condition. -/
import Derived.Test.YtfoelbdkgaliaaaGreatDamYA
import Derived.Test.YtfoelbdkgaliaaaGreatProg
import Derived.KernelRfl
import Derived.Test.YtfoelbdkgaliaaaGreatPzPH
set_option linter.unusedSectionVars false
set_option linter.unusedVariables false
set_option linter.unusedSimpArgs false
noncomputable section
namespace MeterS
open Go Go.Dam Go.Proofs
set_option maxRecDepth 1000000
variable [iG]
theorem ao4 (x y c:Int) (hx:0≤x) (hy:0≤y) (h0:0≤c) (h1:c≤1):dK Pg (callFunc 158 #[.int .u64 x, .int .u64 y, .int .u64 c]) =
  some (.value (.tuple #[.int .u64 ((x+y+c)%18446744073709551616), .int .u64 ((x+y+c) / 18446744073709551616)])):=by
 obtain⟨m,rfl⟩:=Int.eq_ofNat_of_zero_le hx
 obtain⟨n,rfl⟩:=Int.eq_ofNat_of_zero_le hy
 have e0:dK Pg (callFunc 158 #[.int .u64 (Int.ofNat m), .int .u64 (Int.ofNat n), .int .u64 0])=some (.value (.tuple #[.int .u64 (Int.ofNat ((m+n+0)%18446744073709551616)), .int .u64 (Int.ofNat ((m+n+0) / 18446744073709551616))])):=by kernel_rfl
 have e1:dK Pg (callFunc 158 #[.int .u64 (Int.ofNat m), .int .u64 (Int.ofNat n), .int .u64 1])=some (.value (.tuple #[.int .u64 (Int.ofNat ((m+n+1)%18446744073709551616)), .int .u64 (Int.ofNat ((m+n+1) / 18446744073709551616))])):=by kernel_rfl
 obtain rfl | rfl:c=0∨c=1:=by omega
 ·exact e0
 ·exact e1
def acE:List Value→Option (Value×List Prop)
 |[.int .u64 x, .int .u64 y, .int .u64 c]=>some (.tuple #[.int .u64 ((x+y+c)%18446744073709551616), .int .u64 ((x+y+c) / 18446744073709551616)],[0≤x,0≤y,0≤c,c≤1])
 |_=>none
def X0:aB:=aF 158 (.ext acE) adq
theorem hX0:bT Pg X0:=MZ (fun vs u l h hl=>by
 unfold acE at h
 split at h
 next x y c=>
  obtain⟨rfl,rfl⟩:=dB h
  obtain⟨h1,h2,h3,h4,_⟩:=hl
  exact ao4 x y c h1 h2 h3 h4
 ·cases h) Si
theorem ag0 (b r p:Int):iY Pg (X0) 100000 [.d true, .c 14] 69 [D.agg [D.v (Value.int .i64 b),D.v (Value.int .i64 r),D.v (Value.int .i64 p)]]=some (D.v (Value.int .i64 8),[ah .lss b 1=true]):=by kernel_rfl
theorem aid (b r p:Int):iY Pg (X0) 100000 [.d false, .c 1, .d true, .c 11] 69 [D.agg [D.v (Value.int .i64 b),D.v (Value.int .i64 r),D.v (Value.int .i64 p)]]=some (D.v (Value.int .i64 8),[ah .gtr b 1000000000=true,
 ah .lss b 1=false]):=by kernel_rfl
theorem ahd (b r p:Int):iY Pg (X0) 100000 [.d false, .c 1, .d false, .c 1, .d true, .c 8] 69 [D.agg [D.v (Value.int .i64 b),D.v (Value.int .i64 r),D.v (Value.int .i64 p)]]=some (D.v (Value.int .i64 8),[ah .lss r 0=true,
 ah .gtr b 1000000000=false,
 ah .lss b 1=false]):=by kernel_rfl
theorem ahQ (b r p:Int):iY Pg (X0) 100000 [.d false, .c 1, .d false, .c 1, .d false, .c 1, .d true, .c 5] 69 [D.agg [D.v (Value.int .i64 b),D.v (Value.int .i64 r),D.v (Value.int .i64 p)]]=some (D.v (Value.int .i64 8),[ah .gtr r 1000000000=true,
 ah .lss r 0=false,
 ah .gtr b 1000000000=false,
 ah .lss b 1=false]):=by kernel_rfl
theorem ahT (b r p:Int):iY Pg (X0) 100000 [.d false, .c 1, .d false, .c 1, .d false, .c 1, .d false, .c 1, .d true, .c 2] 69 [D.agg [D.v (Value.int .i64 b),D.v (Value.int .i64 r),D.v (Value.int .i64 p)]]=some (D.v (Value.int .i64 8),[ah .lss p 1=true,
 ah .gtr r 1000000000=false,
 ah .lss r 0=false,
 ah .gtr b 1000000000=false,
 ah .lss b 1=false]):=by kernel_rfl
theorem aiM (b r p:Int):iY Pg (X0) 100000 [.d false, .c 1, .d false, .c 1, .d false, .c 1, .d false, .c 1, .d false, .c 1, .d true] 69 [D.agg [D.v (Value.int .i64 b),D.v (Value.int .i64 r),D.v (Value.int .i64 p)]]=some (D.v (Value.int .i64 8),[ah .gtr p 1000000000=true,
 ah .lss p 1=false,
 ah .gtr r 1000000000=false,
 ah .lss r 0=false,
 ah .gtr b 1000000000=false,
 ah .lss b 1=false]):=by kernel_rfl
theorem ag1 (b r p:Int):iY Pg (X0) 100000 [.d false, .c 1, .d false, .c 1, .d false, .c 1, .d false, .c 1, .d false, .c 1, .d false] 69 [D.agg [D.v (Value.int .i64 b),D.v (Value.int .i64 r),D.v (Value.int .i64 p)]]=some (D.v (Value.int .i64 0),[ah .gtr p 1000000000=false,
 ah .lss p 1=false,
 ah .gtr r 1000000000=false,
 ah .lss r 0=false,
 ah .gtr b 1000000000=false,
 ah .lss b 1=false]):=by kernel_rfl
theorem WI (b r p:Int) (res:D)
 (h0:((ah .lss b 1)=true)→(True)∧res=D.v (Value.int .i64 8))
 (h1:((ah .lss b 1)=false)→((ah .gtr b 1000000000)=true)→(True)∧res=D.v (Value.int .i64 8))
 (h2:((ah .lss b 1)=false)→((ah .gtr b 1000000000)=false)→((ah .lss r 0)=true)→(True)∧res=D.v (Value.int .i64 8))
 (h3:((ah .lss b 1)=false)→((ah .gtr b 1000000000)=false)→((ah .lss r 0)=false)→((ah .gtr r 1000000000)=true)→(True)∧res=D.v (Value.int .i64 8))
 (h4:((ah .lss b 1)=false)→((ah .gtr b 1000000000)=false)→((ah .lss r 0)=false)→((ah .gtr r 1000000000)=false)→((ah .lss p 1)=true)→(True)∧res=D.v (Value.int .i64 8))
 (h5:((ah .lss b 1)=false)→((ah .gtr b 1000000000)=false)→((ah .lss r 0)=false)→((ah .gtr r 1000000000)=false)→((ah .lss p 1)=false)→((ah .gtr p 1000000000)=true)→(True)∧res=D.v (Value.int .i64 8))
 (h6:((ah .lss b 1)=false)→((ah .gtr b 1000000000)=false)→((ah .lss r 0)=false)→((ah .gtr r 1000000000)=false)→((ah .lss p 1)=false)→((ah .gtr p 1000000000)=false)→(True)∧res=D.v (Value.int .i64 0)):
 Kl 69 [D.agg [D.v (Value.int .i64 b),D.v (Value.int .i64 r),D.v (Value.int .i64 p)]] res:=by
 cases e0:(ah .lss b 1) with
 |true=>
  exact aT (hX0) (ag0 b r p) ⟨e0,trivial⟩ (h0 e0).2
 |false=>
  cases e1:(ah .gtr b 1000000000) with
  |true=>
   exact aT (hX0) (aid b r p) ⟨e1,e0,trivial⟩ (h1 e0 e1).2
  |false=>
   cases e2:(ah .lss r 0) with
   |true=>
    exact aT (hX0) (ahd b r p) ⟨e2,e1,e0,trivial⟩ (h2 e0 e1 e2).2
   |false=>
    cases e3:(ah .gtr r 1000000000) with
    |true=>
     exact aT (hX0) (ahQ b r p) ⟨e3,e2,e1,e0,trivial⟩ (h3 e0 e1 e2 e3).2
    |false=>
     cases e4:(ah .lss p 1) with
     |true=>
      exact aT (hX0) (ahT b r p) ⟨e4,e3,e2,e1,e0,trivial⟩ (h4 e0 e1 e2 e3 e4).2
     |false=>
      cases e5:(ah .gtr p 1000000000) with
      |true=>
       exact aT (hX0) (aiM b r p) ⟨e5,e4,e3,e2,e1,e0,trivial⟩ (h5 e0 e1 e2 e3 e4 e5).2
      |false=>
       exact aT (hX0) (ag1 b r p) ⟨e5,e4,e3,e2,e1,e0,trivial⟩ (h6 e0 e1 e2 e3 e4 e5).2
theorem aiX (b r p:Int):iY Pg (X0) 100000 [.d true, .c 14] 67 [D.agg [D.v (Value.int .i64 b),D.v (Value.int .i64 r),D.v (Value.int .i64 p)]]=some (D.v (Value.int .i64 8),[ah .lss b 1=true]):=by kernel_rfl
theorem ahf (b r p:Int):iY Pg (X0) 100000 [.d false, .c 1, .d true, .c 11] 67 [D.agg [D.v (Value.int .i64 b),D.v (Value.int .i64 r),D.v (Value.int .i64 p)]]=some (D.v (Value.int .i64 8),[ah .gtr b 1000000000=true,
 ah .lss b 1=false]):=by kernel_rfl
theorem aiR (b r p:Int):iY Pg (X0) 100000 [.d false, .c 1, .d false, .c 1, .d true, .c 8] 67 [D.agg [D.v (Value.int .i64 b),D.v (Value.int .i64 r),D.v (Value.int .i64 p)]]=some (D.v (Value.int .i64 8),[ah .lss r 0=true,
 ah .gtr b 1000000000=false,
 ah .lss b 1=false]):=by kernel_rfl
theorem ahl (b r p:Int):iY Pg (X0) 100000 [.d false, .c 1, .d false, .c 1, .d false, .c 1, .d true, .c 5] 67 [D.agg [D.v (Value.int .i64 b),D.v (Value.int .i64 r),D.v (Value.int .i64 p)]]=some (D.v (Value.int .i64 8),[ah .gtr r 1000000000=true,
 ah .lss r 0=false,
 ah .gtr b 1000000000=false,
 ah .lss b 1=false]):=by kernel_rfl
theorem agM (b r p:Int):iY Pg (X0) 100000 [.d false, .c 1, .d false, .c 1, .d false, .c 1, .d false, .c 1, .d true, .c 2] 67 [D.agg [D.v (Value.int .i64 b),D.v (Value.int .i64 r),D.v (Value.int .i64 p)]]=some (D.v (Value.int .i64 8),[ah .lss p 1=true,
 ah .gtr r 1000000000=false,
 ah .lss r 0=false,
 ah .gtr b 1000000000=false,
 ah .lss b 1=false]):=by kernel_rfl
theorem agA (b r p:Int):iY Pg (X0) 100000 [.d false, .c 1, .d false, .c 1, .d false, .c 1, .d false, .c 1, .d false, .c 1, .d true] 67 [D.agg [D.v (Value.int .i64 b),D.v (Value.int .i64 r),D.v (Value.int .i64 p)]]=some (D.v (Value.int .i64 8),[ah .gtr p 1000000000=true,
 ah .lss p 1=false,
 ah .gtr r 1000000000=false,
 ah .lss r 0=false,
 ah .gtr b 1000000000=false,
 ah .lss b 1=false]):=by kernel_rfl
theorem aiZ (b r p:Int):iY Pg (X0) 100000 [.d false, .c 1, .d false, .c 1, .d false, .c 1, .d false, .c 1, .d false, .c 1, .d false] 67 [D.agg [D.v (Value.int .i64 b),D.v (Value.int .i64 r),D.v (Value.int .i64 p)]]=some (D.v (Value.int .i64 0),[ah .gtr p 1000000000=false,
 ah .lss p 1=false,
 ah .gtr r 1000000000=false,
 ah .lss r 0=false,
 ah .gtr b 1000000000=false,
 ah .lss b 1=false]):=by kernel_rfl
theorem WX (b r p:Int) (res:D)
 (h0:((ah .lss b 1)=true)→(True)∧res=D.v (Value.int .i64 8))
 (h1:((ah .lss b 1)=false)→((ah .gtr b 1000000000)=true)→(True)∧res=D.v (Value.int .i64 8))
 (h2:((ah .lss b 1)=false)→((ah .gtr b 1000000000)=false)→((ah .lss r 0)=true)→(True)∧res=D.v (Value.int .i64 8))
 (h3:((ah .lss b 1)=false)→((ah .gtr b 1000000000)=false)→((ah .lss r 0)=false)→((ah .gtr r 1000000000)=true)→(True)∧res=D.v (Value.int .i64 8))
 (h4:((ah .lss b 1)=false)→((ah .gtr b 1000000000)=false)→((ah .lss r 0)=false)→((ah .gtr r 1000000000)=false)→((ah .lss p 1)=true)→(True)∧res=D.v (Value.int .i64 8))
 (h5:((ah .lss b 1)=false)→((ah .gtr b 1000000000)=false)→((ah .lss r 0)=false)→((ah .gtr r 1000000000)=false)→((ah .lss p 1)=false)→((ah .gtr p 1000000000)=true)→(True)∧res=D.v (Value.int .i64 8))
 (h6:((ah .lss b 1)=false)→((ah .gtr b 1000000000)=false)→((ah .lss r 0)=false)→((ah .gtr r 1000000000)=false)→((ah .lss p 1)=false)→((ah .gtr p 1000000000)=false)→(True)∧res=D.v (Value.int .i64 0)):
 Kl 67 [D.agg [D.v (Value.int .i64 b),D.v (Value.int .i64 r),D.v (Value.int .i64 p)]] res:=by
 cases e0:(ah .lss b 1) with
 |true=>
  exact aT (hX0) (aiX b r p) ⟨e0,trivial⟩ (h0 e0).2
 |false=>
  cases e1:(ah .gtr b 1000000000) with
  |true=>
   exact aT (hX0) (ahf b r p) ⟨e1,e0,trivial⟩ (h1 e0 e1).2
  |false=>
   cases e2:(ah .lss r 0) with
   |true=>
    exact aT (hX0) (aiR b r p) ⟨e2,e1,e0,trivial⟩ (h2 e0 e1 e2).2
   |false=>
    cases e3:(ah .gtr r 1000000000) with
    |true=>
     exact aT (hX0) (ahl b r p) ⟨e3,e2,e1,e0,trivial⟩ (h3 e0 e1 e2 e3).2
    |false=>
     cases e4:(ah .lss p 1) with
     |true=>
      exact aT (hX0) (agM b r p) ⟨e4,e3,e2,e1,e0,trivial⟩ (h4 e0 e1 e2 e3 e4).2
     |false=>
      cases e5:(ah .gtr p 1000000000) with
      |true=>
       exact aT (hX0) (agA b r p) ⟨e5,e4,e3,e2,e1,e0,trivial⟩ (h5 e0 e1 e2 e3 e4 e5).2
      |false=>
       exact aT (hX0) (aiZ b r p) ⟨e5,e4,e3,e2,e1,e0,trivial⟩ (h6 e0 e1 e2 e3 e4 e5).2
theorem aiy (x y:Int):iY Pg (X0) 100000 [] 112 [D.v (Value.int .u64 x),D.v (Value.int .u64 y)]=some (D.agg
 [D.v
   (Value.int .u64
    (ai .add .u64
     (ai .add .u64
      (ai .mul .u64 (ai .shr .u64 x 32) (ai .shr .u64 y 32))
      (ai .shr .u64
       (ai .add .u64
        (ai .mul .u64 (ai .shr .u64 x 32) (ai .and .u64 y 4294967295))
        (ai .shr .u64
         (ai .mul .u64 (ai .and .u64 x 4294967295)
          (ai .and .u64 y 4294967295))
         32))
       32))
     (ai .shr .u64
      (ai .add .u64
       (ai .and .u64
        (ai .add .u64
         (ai .mul .u64 (ai .shr .u64 x 32) (ai .and .u64 y 4294967295))
         (ai .shr .u64
          (ai .mul .u64 (ai .and .u64 x 4294967295)
           (ai .and .u64 y 4294967295))
          32))
        4294967295)
       (ai .mul .u64 (ai .and .u64 x 4294967295) (ai .shr .u64 y 32)))
      32))),
  D.v (Value.int .u64 (ai .mul .u64 x y))],[true=true,
 true=true,
 true=true,
 true=true,
 true=true]):=by kernel_rfl
theorem XI (x y:Int) (res:D)
 (h0:(True)∧res=D.agg
 [D.v
   (Value.int .u64
    (ai .add .u64
     (ai .add .u64
      (ai .mul .u64 (ai .shr .u64 x 32) (ai .shr .u64 y 32))
      (ai .shr .u64
       (ai .add .u64
        (ai .mul .u64 (ai .shr .u64 x 32) (ai .and .u64 y 4294967295))
        (ai .shr .u64
         (ai .mul .u64 (ai .and .u64 x 4294967295)
          (ai .and .u64 y 4294967295))
         32))
       32))
     (ai .shr .u64
      (ai .add .u64
       (ai .and .u64
        (ai .add .u64
         (ai .mul .u64 (ai .shr .u64 x 32) (ai .and .u64 y 4294967295))
         (ai .shr .u64
          (ai .mul .u64 (ai .and .u64 x 4294967295)
           (ai .and .u64 y 4294967295))
          32))
        4294967295)
       (ai .mul .u64 (ai .and .u64 x 4294967295) (ai .shr .u64 y 32)))
      32))),
  D.v (Value.int .u64 (ai .mul .u64 x y))]):
 Kl 112 [D.v (Value.int .u64 x),D.v (Value.int .u64 y)] res:=by
 exact aT (hX0) (aiy x y) ⟨rfl,rfl,rfl,rfl,rfl,trivial⟩ (h0).2
theorem ahx (x y:Int):iY Pg (X0) 100000 [] 172 [D.v (Value.int .u64 x),D.v (Value.int .u64 y)]=some (D.agg
 [D.v
   (Value.int .u64
    (ai .add .u64
     (ai .add .u64
      (ai .add .u64
       (ai .mul .u64 (ai .quo .u64 x 4294967296)
        (ai .quo .u64 y 4294967296))
       (ai .quo .u64
        (ai .mul .u64 (ai .quo .u64 x 4294967296)
         (ai .rem .u64 y 4294967296))
        4294967296))
      (ai .quo .u64
       (ai .mul .u64 (ai .rem .u64 x 4294967296)
        (ai .quo .u64 y 4294967296))
       4294967296))
     (ai .quo .u64
      (ai .add .u64
       (ai .add .u64
        (ai .quo .u64
         (ai .mul .u64 (ai .rem .u64 x 4294967296)
          (ai .rem .u64 y 4294967296))
         4294967296)
        (ai .rem .u64
         (ai .mul .u64 (ai .quo .u64 x 4294967296)
          (ai .rem .u64 y 4294967296))
         4294967296))
       (ai .rem .u64
        (ai .mul .u64 (ai .rem .u64 x 4294967296)
         (ai .quo .u64 y 4294967296))
        4294967296))
      4294967296))),
  D.v
   (Value.int .u64
    (ai .add .u64
     (ai .mul .u64
      (ai .rem .u64
       (ai .add .u64
        (ai .add .u64
         (ai .quo .u64
          (ai .mul .u64 (ai .rem .u64 x 4294967296)
           (ai .rem .u64 y 4294967296))
          4294967296)
         (ai .rem .u64
          (ai .mul .u64 (ai .quo .u64 x 4294967296)
           (ai .rem .u64 y 4294967296))
          4294967296))
        (ai .rem .u64
         (ai .mul .u64 (ai .rem .u64 x 4294967296)
          (ai .quo .u64 y 4294967296))
         4294967296))
       4294967296)
      4294967296)
     (ai .rem .u64
      (ai .mul .u64 (ai .rem .u64 x 4294967296)
       (ai .rem .u64 y 4294967296))
      4294967296)))],[false=false,
 false=false,
 false=false,
 false=false,
 false=false,
 false=false,
 false=false,
 false=false,
 false=false,
 false=false,
 false=false,
 false=false]):=by kernel_rfl
theorem WT (x y:Int) (res:D)
 (h0:(True)∧res=D.agg
 [D.v
   (Value.int .u64
    (ai .add .u64
     (ai .add .u64
      (ai .add .u64
       (ai .mul .u64 (ai .quo .u64 x 4294967296)
        (ai .quo .u64 y 4294967296))
       (ai .quo .u64
        (ai .mul .u64 (ai .quo .u64 x 4294967296)
         (ai .rem .u64 y 4294967296))
        4294967296))
      (ai .quo .u64
       (ai .mul .u64 (ai .rem .u64 x 4294967296)
        (ai .quo .u64 y 4294967296))
       4294967296))
     (ai .quo .u64
      (ai .add .u64
       (ai .add .u64
        (ai .quo .u64
         (ai .mul .u64 (ai .rem .u64 x 4294967296)
          (ai .rem .u64 y 4294967296))
         4294967296)
        (ai .rem .u64
         (ai .mul .u64 (ai .quo .u64 x 4294967296)
          (ai .rem .u64 y 4294967296))
         4294967296))
       (ai .rem .u64
        (ai .mul .u64 (ai .rem .u64 x 4294967296)
         (ai .quo .u64 y 4294967296))
        4294967296))
      4294967296))),
  D.v
   (Value.int .u64
    (ai .add .u64
     (ai .mul .u64
      (ai .rem .u64
       (ai .add .u64
        (ai .add .u64
         (ai .quo .u64
          (ai .mul .u64 (ai .rem .u64 x 4294967296)
           (ai .rem .u64 y 4294967296))
          4294967296)
         (ai .rem .u64
          (ai .mul .u64 (ai .quo .u64 x 4294967296)
           (ai .rem .u64 y 4294967296))
          4294967296))
        (ai .rem .u64
         (ai .mul .u64 (ai .rem .u64 x 4294967296)
          (ai .quo .u64 y 4294967296))
         4294967296))
       4294967296)
      4294967296)
     (ai .rem .u64
      (ai .mul .u64 (ai .rem .u64 x 4294967296)
       (ai .rem .u64 y 4294967296))
      4294967296)))]):
 Kl 172 [D.v (Value.int .u64 x),D.v (Value.int .u64 y)] res:=by
 exact aT (hX0) (ahx x y) ⟨rfl,rfl,rfl,rfl,rfl,rfl,rfl,rfl,rfl,rfl,rfl,rfl,trivial⟩ (h0).2
theorem aiI (h l d e:Int):iY Pg (X0) 100000 [.d true] 111 [D.agg [D.v (Value.int .u64 h),D.v (Value.int .u64 l)],
 D.agg [D.v (Value.int .u64 d),D.v (Value.int .u64 e)]]=some (D.aS [D.agg [D.v (Value.int .u64 0),D.v (Value.int .u64 0)],D.v (Value.int .i64 16)],[ah .neq ((h+d+(l+e+0) / 18446744073709551616) / 18446744073709551616) 0=true,
 0≤h,
 0≤d,
 0≤(l+e+0) / 18446744073709551616,
 (l+e+0) / 18446744073709551616≤1,
 0≤l,
 0≤e,
 (0:Int)≤(0:Int),
 (0:Int)≤(1:Int)]):=by kernel_rfl
theorem aip (h l d e:Int):iY Pg (X0) 100000 [.d false] 111 [D.agg [D.v (Value.int .u64 h),D.v (Value.int .u64 l)],
 D.agg [D.v (Value.int .u64 d),D.v (Value.int .u64 e)]]=some (D.aS
 [D.agg
   [D.v (Value.int .u64 ((h+d+(l+e+0) / 18446744073709551616)%18446744073709551616)),
    D.v (Value.int .u64 ((l+e+0)%18446744073709551616))],
  D.v (Value.int .i64 0)],[ah .neq ((h+d+(l+e+0) / 18446744073709551616) / 18446744073709551616) 0=false,
 0≤h,
 0≤d,
 0≤(l+e+0) / 18446744073709551616,
 (l+e+0) / 18446744073709551616≤1,
 0≤l,
 0≤e,
 (0:Int)≤(0:Int),
 (0:Int)≤(1:Int)]):=by kernel_rfl
theorem Xg (h l d e:Int) (res:D)
 (h0:((ah .neq ((h+d+(l+e+0) / 18446744073709551616) / 18446744073709551616) 0)=true)→((0≤h)∧(0≤d)∧(0≤(l+e+0) / 18446744073709551616)∧((l+e+0) / 18446744073709551616≤1)∧(0≤l)∧(0≤e)∧((0:Int)≤(0:Int))∧((0:Int)≤(1:Int))∧True)∧res=D.aS [D.agg [D.v (Value.int .u64 0),D.v (Value.int .u64 0)],D.v (Value.int .i64 16)])
 (h1:((ah .neq ((h+d+(l+e+0) / 18446744073709551616) / 18446744073709551616) 0)=false)→((0≤h)∧(0≤d)∧(0≤(l+e+0) / 18446744073709551616)∧((l+e+0) / 18446744073709551616≤1)∧(0≤l)∧(0≤e)∧((0:Int)≤(0:Int))∧((0:Int)≤(1:Int))∧True)∧res=D.aS
 [D.agg
   [D.v (Value.int .u64 ((h+d+(l+e+0) / 18446744073709551616)%18446744073709551616)),
    D.v (Value.int .u64 ((l+e+0)%18446744073709551616))],
  D.v (Value.int .i64 0)]):
 Kl 111 [D.agg [D.v (Value.int .u64 h),D.v (Value.int .u64 l)],
 D.agg [D.v (Value.int .u64 d),D.v (Value.int .u64 e)]] res:=by
 cases e0:(ah .neq ((h+d+(l+e+0) / 18446744073709551616) / 18446744073709551616) 0) with
 |true=>
  exact aT (hX0) (aiI h l d e) ⟨e0,(h0 e0).1.1,(h0 e0).1.2.1,(h0 e0).1.2.2.1,(h0 e0).1.2.2.2.1,(h0 e0).1.2.2.2.2.1,(h0 e0).1.2.2.2.2.2.1,(h0 e0).1.2.2.2.2.2.2.1,(h0 e0).1.2.2.2.2.2.2.2.1,trivial⟩ (h0 e0).2
 |false=>
  exact aT (hX0) (aip h l d e) ⟨e0,(h1 e0).1.1,(h1 e0).1.2.1,(h1 e0).1.2.2.1,(h1 e0).1.2.2.2.1,(h1 e0).1.2.2.2.2.1,(h1 e0).1.2.2.2.2.2.1,(h1 e0).1.2.2.2.2.2.2.1,(h1 e0).1.2.2.2.2.2.2.2.1,trivial⟩ (h1 e0).2
theorem aiu (h l d e:Int):iY Pg (X0) 100000 [.d true, .d true, .c 3] 171 [D.agg [D.v (Value.int .u64 h),D.v (Value.int .u64 l)],
 D.agg [D.v (Value.int .u64 d),D.v (Value.int .u64 e)]]=some (D.aS [D.agg [D.v (Value.int .u64 0),D.v (Value.int .u64 0)],D.v (Value.int .i64 16)],[ah .gtr d (ai .sub .u64 18446744073709551615 h)=true,
 ah .gtr e (ai .sub .u64 18446744073709551615 l)=true]):=by kernel_rfl
theorem agP (h l d e:Int):iY Pg (X0) 100000 [.d true, .d false, .c 8, .d true] 171 [D.agg [D.v (Value.int .u64 h),D.v (Value.int .u64 l)],
 D.agg [D.v (Value.int .u64 d),D.v (Value.int .u64 e)]]=some (D.aS [D.agg [D.v (Value.int .u64 0),D.v (Value.int .u64 0)],D.v (Value.int .i64 16)],[ah .eql (ai .add .u64 h d) 18446744073709551615=true,
 ah .gtr d (ai .sub .u64 18446744073709551615 h)=false,
 ah .gtr e (ai .sub .u64 18446744073709551615 l)=true]):=by kernel_rfl
theorem ah1 (h l d e:Int):iY Pg (X0) 100000 [.d true, .d false, .c 8, .d false] 171 [D.agg [D.v (Value.int .u64 h),D.v (Value.int .u64 l)],
 D.agg [D.v (Value.int .u64 d),D.v (Value.int .u64 e)]]=some (D.aS
 [D.agg
   [D.v (Value.int .u64 (ai .add .u64 (ai .add .u64 h d) 1)),
    D.v (Value.int .u64 (ai .add .u64 l e))],
  D.v (Value.int .i64 0)],[ah .eql (ai .add .u64 h d) 18446744073709551615=false,
 ah .gtr d (ai .sub .u64 18446744073709551615 h)=false,
 ah .gtr e (ai .sub .u64 18446744073709551615 l)=true]):=by kernel_rfl
theorem aij (h l d e:Int):iY Pg (X0) 100000 [.d false, .d true, .c 3] 171 [D.agg [D.v (Value.int .u64 h),D.v (Value.int .u64 l)],
 D.agg [D.v (Value.int .u64 d),D.v (Value.int .u64 e)]]=some (D.aS [D.agg [D.v (Value.int .u64 0),D.v (Value.int .u64 0)],D.v (Value.int .i64 16)],[ah .gtr d (ai .sub .u64 18446744073709551615 h)=true,
 ah .gtr e (ai .sub .u64 18446744073709551615 l)=false]):=by kernel_rfl
theorem ah7 (h l d e:Int):iY Pg (X0) 100000 [.d false, .d false, .c 9] 171 [D.agg [D.v (Value.int .u64 h),D.v (Value.int .u64 l)],
 D.agg [D.v (Value.int .u64 d),D.v (Value.int .u64 e)]]=some (D.aS
 [D.agg
   [D.v (Value.int .u64 (ai .add .u64 (ai .add .u64 h d) 0)),
    D.v (Value.int .u64 (ai .add .u64 l e))],
  D.v (Value.int .i64 0)],[ah .gtr d (ai .sub .u64 18446744073709551615 h)=false,
 ah .gtr e (ai .sub .u64 18446744073709551615 l)=false]):=by kernel_rfl
theorem V5 (h l d e:Int) (res:D)
 (h0:((ah .gtr e (ai .sub .u64 18446744073709551615 l))=true)→((ah .gtr d (ai .sub .u64 18446744073709551615 h))=true)→(True)∧res=D.aS [D.agg [D.v (Value.int .u64 0),D.v (Value.int .u64 0)],D.v (Value.int .i64 16)])
 (h1:((ah .gtr e (ai .sub .u64 18446744073709551615 l))=true)→((ah .gtr d (ai .sub .u64 18446744073709551615 h))=false)→((ah .eql (ai .add .u64 h d) 18446744073709551615)=true)→(True)∧res=D.aS [D.agg [D.v (Value.int .u64 0),D.v (Value.int .u64 0)],D.v (Value.int .i64 16)])
 (h2:((ah .gtr e (ai .sub .u64 18446744073709551615 l))=true)→((ah .gtr d (ai .sub .u64 18446744073709551615 h))=false)→((ah .eql (ai .add .u64 h d) 18446744073709551615)=false)→(True)∧res=D.aS
 [D.agg
   [D.v (Value.int .u64 (ai .add .u64 (ai .add .u64 h d) 1)),
    D.v (Value.int .u64 (ai .add .u64 l e))],
  D.v (Value.int .i64 0)])
 (h3:((ah .gtr e (ai .sub .u64 18446744073709551615 l))=false)→((ah .gtr d (ai .sub .u64 18446744073709551615 h))=true)→(True)∧res=D.aS [D.agg [D.v (Value.int .u64 0),D.v (Value.int .u64 0)],D.v (Value.int .i64 16)])
 (h4:((ah .gtr e (ai .sub .u64 18446744073709551615 l))=false)→((ah .gtr d (ai .sub .u64 18446744073709551615 h))=false)→(True)∧res=D.aS
 [D.agg
   [D.v (Value.int .u64 (ai .add .u64 (ai .add .u64 h d) 0)),
    D.v (Value.int .u64 (ai .add .u64 l e))],
  D.v (Value.int .i64 0)]):
 Kl 171 [D.agg [D.v (Value.int .u64 h),D.v (Value.int .u64 l)],
 D.agg [D.v (Value.int .u64 d),D.v (Value.int .u64 e)]] res:=by
 cases e0:(ah .gtr e (ai .sub .u64 18446744073709551615 l)) with
 |true=>
  cases e1:(ah .gtr d (ai .sub .u64 18446744073709551615 h)) with
  |true=>
   exact aT (hX0) (aiu h l d e) ⟨e1,e0,trivial⟩ (h0 e0 e1).2
  |false=>
   cases e2:(ah .eql (ai .add .u64 h d) 18446744073709551615) with
   |true=>
    exact aT (hX0) (agP h l d e) ⟨e2,e1,e0,trivial⟩ (h1 e0 e1 e2).2
   |false=>
    exact aT (hX0) (ah1 h l d e) ⟨e2,e1,e0,trivial⟩ (h2 e0 e1 e2).2
 |false=>
  cases e1:(ah .gtr d (ai .sub .u64 18446744073709551615 h)) with
  |true=>
   exact aT (hX0) (aij h l d e) ⟨e1,e0,trivial⟩ (h3 e0 e1).2
  |false=>
   exact aT (hX0) (ah7 h l d e) ⟨e1,e0,trivial⟩ (h4 e0 e1).2
theorem ahV (h l d e:Int):iY Pg (X0) 100000 [.d true, .c 6] 174 [D.agg [D.v (Value.int .u64 h),D.v (Value.int .u64 l)],
 D.agg [D.v (Value.int .u64 d),D.v (Value.int .u64 e)]]=some (D.v (Value.int .i64 (-1)),[ah .lss h d=true]):=by kernel_rfl
theorem ag2 (h l d e:Int):iY Pg (X0) 100000 [.d false, .c 4, .d true, .c 4, .d true] 174 [D.agg [D.v (Value.int .u64 h),D.v (Value.int .u64 l)],
 D.agg [D.v (Value.int .u64 d),D.v (Value.int .u64 e)]]=some (D.v (Value.int .i64 (-1)),[ah .lss l e=true,
 ah .eql h d=true,
 ah .lss h d=false]):=by kernel_rfl
theorem ah9 (h l d e:Int):iY Pg (X0) 100000 [.d false, .c 4, .d true, .c 4, .d false, .d true] 174 [D.agg [D.v (Value.int .u64 h),D.v (Value.int .u64 l)],
 D.agg [D.v (Value.int .u64 d),D.v (Value.int .u64 e)]]=some (D.v (Value.int .i64 0),[(h ==d && (l ==e && true))=true,
 ah .lss l e=false,
 ah .eql h d=true,
 ah .lss h d=false]):=by kernel_rfl
theorem agx (h l d e:Int):iY Pg (X0) 100000 [.d false, .c 4, .d true, .c 4, .d false, .d false] 174 [D.agg [D.v (Value.int .u64 h),D.v (Value.int .u64 l)],
 D.agg [D.v (Value.int .u64 d),D.v (Value.int .u64 e)]]=some (D.v (Value.int .i64 1),[(h ==d && (l ==e && true))=false,
 ah .lss l e=false,
 ah .eql h d=true,
 ah .lss h d=false]):=by kernel_rfl
theorem agr (h l d e:Int):iY Pg (X0) 100000 [.d false, .c 4, .d false, .c 5, .d true] 174 [D.agg [D.v (Value.int .u64 h),D.v (Value.int .u64 l)],
 D.agg [D.v (Value.int .u64 d),D.v (Value.int .u64 e)]]=some (D.v (Value.int .i64 0),[(h ==d && (l ==e && true))=true,
 ah .eql h d=false,
 ah .lss h d=false]):=by kernel_rfl
theorem aif (h l d e:Int):iY Pg (X0) 100000 [.d false, .c 4, .d false, .c 5, .d false] 174 [D.agg [D.v (Value.int .u64 h),D.v (Value.int .u64 l)],
 D.agg [D.v (Value.int .u64 d),D.v (Value.int .u64 e)]]=some (D.v (Value.int .i64 1),[(h ==d && (l ==e && true))=false,
 ah .eql h d=false,
 ah .lss h d=false]):=by kernel_rfl
theorem Wl (h l d e:Int) (res:D)
 (h0:((ah .lss h d)=true)→(True)∧res=D.v (Value.int .i64 (-1)))
 (h1:((ah .lss h d)=false)→((ah .eql h d)=true)→((ah .lss l e)=true)→(True)∧res=D.v (Value.int .i64 (-1)))
 (h2:((ah .lss h d)=false)→((ah .eql h d)=true)→((ah .lss l e)=false)→((h ==d && (l ==e && true))=true)→(True)∧res=D.v (Value.int .i64 0))
 (h3:((ah .lss h d)=false)→((ah .eql h d)=true)→((ah .lss l e)=false)→((h ==d && (l ==e && true))=false)→(True)∧res=D.v (Value.int .i64 1))
 (h4:((ah .lss h d)=false)→((ah .eql h d)=false)→((h ==d && (l ==e && true))=true)→(True)∧res=D.v (Value.int .i64 0))
 (h5:((ah .lss h d)=false)→((ah .eql h d)=false)→((h ==d && (l ==e && true))=false)→(True)∧res=D.v (Value.int .i64 1)):
 Kl 174 [D.agg [D.v (Value.int .u64 h),D.v (Value.int .u64 l)],
 D.agg [D.v (Value.int .u64 d),D.v (Value.int .u64 e)]] res:=by
 cases e0:(ah .lss h d) with
 |true=>
  exact aT (hX0) (ahV h l d e) ⟨e0,trivial⟩ (h0 e0).2
 |false=>
  cases e1:(ah .eql h d) with
  |true=>
   cases e2:(ah .lss l e) with
   |true=>
    exact aT (hX0) (ag2 h l d e) ⟨e2,e1,e0,trivial⟩ (h1 e0 e1 e2).2
   |false=>
    cases e3:(h ==d && (l ==e && true)) with
    |true=>
     exact aT (hX0) (ah9 h l d e) ⟨e3,e2,e1,e0,trivial⟩ (h2 e0 e1 e2 e3).2
    |false=>
     exact aT (hX0) (agx h l d e) ⟨e3,e2,e1,e0,trivial⟩ (h3 e0 e1 e2 e3).2
  |false=>
   cases e2:(h ==d && (l ==e && true)) with
   |true=>
    exact aT (hX0) (agr h l d e) ⟨e2,e1,e0,trivial⟩ (h4 e0 e1 e2).2
   |false=>
    exact aT (hX0) (aif h l d e) ⟨e2,e1,e0,trivial⟩ (h5 e0 e1 e2).2
theorem aew (h l d e:Int):iY Pg (X0) 100000 [.d true] 179 [D.agg [D.v (Value.int .u64 h),D.v (Value.int .u64 l)],
 D.agg [D.v (Value.int .u64 d),D.v (Value.int .u64 e)]]=some (D.agg
 [D.v (Value.int .u64 (ai .sub .u64 (ai .sub .u64 h d) 1)),
  D.v (Value.int .u64 (ai .sub .u64 l e))],[ah .gtr e l=true]):=by kernel_rfl
theorem adp (h l d e:Int):iY Pg (X0) 100000 [.d false] 179 [D.agg [D.v (Value.int .u64 h),D.v (Value.int .u64 l)],
 D.agg [D.v (Value.int .u64 d),D.v (Value.int .u64 e)]]=some (D.agg
 [D.v (Value.int .u64 (ai .sub .u64 h d)),
  D.v (Value.int .u64 (ai .sub .u64 l e))],[ah .gtr e l=false]):=by kernel_rfl
theorem Rt (h l d e:Int) (res:D)
 (h0:((ah .gtr e l)=true)→(True)∧res=D.agg
 [D.v (Value.int .u64 (ai .sub .u64 (ai .sub .u64 h d) 1)),
  D.v (Value.int .u64 (ai .sub .u64 l e))])
 (h1:((ah .gtr e l)=false)→(True)∧res=D.agg
 [D.v (Value.int .u64 (ai .sub .u64 h d)),
  D.v (Value.int .u64 (ai .sub .u64 l e))]):
 Kl 179 [D.agg [D.v (Value.int .u64 h),D.v (Value.int .u64 l)],
 D.agg [D.v (Value.int .u64 d),D.v (Value.int .u64 e)]] res:=by
 cases e0:(ah .gtr e l) with
 |true=>
  exact aT (hX0) (aew h l d e) ⟨e0,trivial⟩ (h0 e0).2
 |false=>
  exact aT (hX0) (adp h l d e) ⟨e0,trivial⟩ (h1 e0).2
abbrev i64 (n:Int):D:= .v (.int .i64 n)
abbrev u64 (n:Int):D:= .v (.int .u64 n)
def C9 (b r p:Int):Int:=if b<1∨1000000000<b∨r<0∨1000000000<r∨p<1∨1000000000<p then 8 else 0
theorem agi (b r p:Int):Kl 69 [.agg [i64 b,i64 r,i64 p]] (i64 (C9 b r p)):=by
 refine WI b r p _ ?_ ?_ ?_ ?_ ?_ ?_ ?_<;>(intros;simp only[aP,aX,fD,iD] at *;refine⟨trivial,?_⟩;unfold C9;first | rw[if_pos (by omega)] | rw[if_neg (by omega)])
theorem ah0 (b r p:Int):Kl 67 [.agg [i64 b,i64 r,i64 p]] (i64 (C9 b r p)):=by
 refine WX b r p _ ?_ ?_ ?_ ?_ ?_ ?_ ?_<;>(intros;simp only[aP,aX,fD,iD] at *;refine⟨trivial,?_⟩;unfold C9;first | rw[if_pos (by omega)] | rw[if_neg (by omega)])
def wd (s:Int):D:= .agg [u64 (s / 18446744073709551616),u64 (s%18446744073709551616)]
def acQ (s:Int):D:= .aS [wd (if s<340282366920938463463374607431768211456 then s else 0),i64 (if s<340282366920938463463374607431768211456 then 0 else 16)]
theorem aiO (h l d e:Int) (h0:0≤h) (h1:h<18446744073709551616) (l0:0≤l) (l1:l<18446744073709551616) (d0:0≤d) (d1:d<18446744073709551616) (e0:0≤e) (e1:e<18446744073709551616):
  Kl 111 [.agg [u64 h,u64 l], .agg [u64 d,u64 e]] (acQ (h*18446744073709551616+l+(d*18446744073709551616+e))):=by
 refine Xg h l d e _ ?_ ?_
 ·intro a
  simp only[aI] at a
  refine⟨⟨by omega,by omega,by omega,by omega,by omega,by omega,by omega,by omega,trivial⟩,?_⟩
  unfold acQ
  rw[if_neg (by omega),if_neg (by omega)];rfl
 ·intro a
  simp only[aQ] at a
  refine⟨⟨by omega,by omega,by omega,by omega,by omega,by omega,by omega,by omega,trivial⟩,?_⟩
  unfold acQ wd
  rw[if_pos (by omega),if_pos (by omega)]
  simp only[D.aS.injEq,D.agg.injEq,List.cons.injEq,D.v.injEq,Value.int.injEq,and_true,true_and]
  omega
theorem aiw (h l d e:Int) (h0:0≤h) (h1:h<18446744073709551616) (l0:0≤l) (l1:l<18446744073709551616) (d0:0≤d) (d1:d<18446744073709551616) (e0:0≤e) (e1:e<18446744073709551616):
  Kl 171 [.agg [u64 h,u64 l], .agg [u64 d,u64 e]] (acQ (h*18446744073709551616+l+(d*18446744073709551616+e))):=by
 refine V5 h l d e _ ?_ ?_ ?_ ?_ ?_
 all_goals
  intros
  simp only[aP,aX,fD,iD,bY,bV,dH,dG,wrap_u64] at *
  refine⟨trivial,?_⟩
  unfold acQ wd
  first
   |(rw[if_neg (by omega),if_neg (by omega)];rfl)
   |(rw[if_pos (by omega),if_pos (by omega)];simp only[D.aS.injEq,D.agg.injEq,List.cons.injEq,D.v.injEq,Value.int.injEq,and_true,true_and];omega)
def qF (x y:Int):Int:=if x<y then -1 else if x=y then 0 else 1
theorem ai2 (h l d e:Int) (l0:0≤l) (l1:l<18446744073709551616) (e0:0≤e) (e1:e<18446744073709551616):
  Kl 174 [.agg [u64 h,u64 l], .agg [u64 d,u64 e]] (i64 (qF (h*18446744073709551616+l) (d*18446744073709551616+e))):=by
 refine Wl h l d e _ ?_ ?_ ?_ ?_ ?_ ?_
 all_goals
  intros
  simp only[aP,aX,fD,iD,bY,bV,Bool.and_true,Bool.and_eq_true,Bool.and_eq_false_iff,beq_iff_eq,beq_eq_false_iff_ne,ne_eq] at *
  refine⟨trivial,?_⟩
  simp only[qF,D.v.injEq,Value.int.injEq,true_and]
  split
  ·omega
  ·split<;>omega
theorem acD (h l d e:Int) (h1:h<18446744073709551616) (l0:0≤l) (l1:l<18446744073709551616) (d0:0≤d) (e0:0≤e) (e1:e<18446744073709551616) (hle:d*18446744073709551616+e≤h*18446744073709551616+l):
  Kl 179 [.agg [u64 h,u64 l], .agg [u64 d,u64 e]] (wd (h*18446744073709551616+l - (d*18446744073709551616+e))):=by
 refine Rt h l d e _ ?_ ?_
 all_goals
  intros
  simp only[aP,aX,fD,iD,bY,bV,dG,wrap_u64] at *
  refine⟨trivial,?_⟩
  simp only[wd,D.aS.injEq,D.agg.injEq,List.cons.injEq,D.v.injEq,Value.int.injEq,and_true,true_and]
  omega
end MeterS
end
noncomputable section
namespace MeterS
open Go Go.Dam Go.Proofs
set_option maxRecDepth 1000000
theorem EC (x:Int):ai .shr .u64 x 32=x / 4294967296:=by
 rw[CO (by decide) (by decide)];rfl
theorem aem {x:Int} (h0:0≤x) (h1:x<18446744073709551616):ai .and .u64 x 4294967295=x%4294967296:=pJ 32 (by decide) h0 h1
theorem tC {p q:Int} (h0:0≤p*q) (h1:p*q<18446744073709551616):ai .mul .u64 p q=p*q:=by rw[mO,wrap_u64];omega
theorem qK {p q:Int} (h0:0≤p+q) (h1:p+q<18446744073709551616):ai .add .u64 p q=p+q:=by rw[dH,wrap_u64];omega
theorem ND {x:Int} (h0:0≤x) (h1:x<18446744073709551616):ai .quo .u64 x 4294967296=x / 4294967296:=by rw[PL _ h0,wrap_u64];omega
theorem NI {x:Int} (h0:0≤x):ai .rem .u64 x 4294967296=x%4294967296:=Gj _ h0
theorem vW {a b:Int} (a0:0≤a) (a1:a<4294967296) (b0:0≤b) (b1:b<4294967296):0≤a*b∧a*b≤18446744065119617025:=
 ⟨Int.mul_nonneg a0 b0,by
  have:=Int.mul_le_mul (show a≤4294967295 by omega) (show b≤4294967295 by omega) b0 (by decide)
  omega⟩
theorem NE (x y:Int):x*y=(x / 4294967296)*(y / 4294967296)*18446744073709551616+((x / 4294967296)*(y%4294967296)+(x%4294967296)*(y / 4294967296))*4294967296+(x%4294967296)*(y%4294967296):=by
 have hx:x=x / 4294967296*4294967296+x%4294967296:=by omega
 have hy:y=y / 4294967296*4294967296+y%4294967296:=by omega
 generalize x / 4294967296=a at *
 generalize x%4294967296=b at *
 generalize y / 4294967296=c at *
 generalize y%4294967296=d at *
 subst hx;subst hy
 rw[Int.add_mul,Int.mul_add,Int.mul_add]
 have e1:a*4294967296*(c*4294967296)=a*c*18446744073709551616:=by rw[Int.mul_assoc,Int.mul_left_comm 4294967296 c,←Int.mul_assoc];rfl
 have e2:a*4294967296*d=a*d*4294967296:=by rw[Int.mul_assoc,Int.mul_comm 4294967296 d,←Int.mul_assoc]
 have e3:b*(c*4294967296)=b*c*4294967296:=by rw[←Int.mul_assoc]
 rw[e1,e2,e3]
 omega
variable [iG]
theorem agm (x y:Int) (x0:0≤x) (x1:x<18446744073709551616) (y0:0≤y) (y1:y<18446744073709551616):Kl 112 [u64 x,u64 y] (wd (x*y)):=by
 refine XI x y _ ⟨trivial,?_⟩
 have hm:=NE x y
 have p1:=vW (a:=x / 4294967296) (b:=y / 4294967296) (by omega) (by omega) (by omega) (by omega)
 have p2:=vW (a:=x / 4294967296) (b:=y%4294967296) (by omega) (by omega) (by omega) (by omega)
 have p3:=vW (a:=x%4294967296) (b:=y / 4294967296) (by omega) (by omega) (by omega) (by omega)
 have p4:=vW (a:=x%4294967296) (b:=y%4294967296) (by omega) (by omega) (by omega) (by omega)
 have lo:ai .mul .u64 x y=x*y%18446744073709551616:=wrap_u64 _
 rw[lo,EC,EC,aem y0 y1,aem x0 x1]
 generalize x*y=z at *
 rw[tC p1.1 (by omega),tC p2.1 (by omega),tC p3.1 (by omega),tC p4.1 (by omega)]
 generalize (x / 4294967296)*(y / 4294967296)=p at *
 generalize (x / 4294967296)*(y%4294967296)=q at *
 generalize (x%4294967296)*(y / 4294967296)=r at *
 generalize (x%4294967296)*(y%4294967296)=s at *
 rw[EC s,qK (p:=q) (q:=s / 4294967296) (by omega) (by omega),aem (x:=q+s / 4294967296) (by omega) (by omega)]
 rw[qK (p:=(q+s / 4294967296)%4294967296) (q:=r) (by omega) (by omega),EC,EC]
 rw[qK (p:=p) (q:=(q+s / 4294967296) / 4294967296) (by omega) (by omega),qK (by omega) (by omega)]
 simp only[wd,D.aS.injEq,D.agg.injEq,List.cons.injEq,D.v.injEq,Value.int.injEq,and_true,true_and]
 omega
theorem ag6 (x y:Int) (x0:0≤x) (x1:x<18446744073709551616) (y0:0≤y) (y1:y<18446744073709551616):Kl 172 [u64 x,u64 y] (wd (x*y)):=by
 refine WT x y _ ⟨trivial,?_⟩
 have hm:=NE x y
 have p1:=vW (a:=x / 4294967296) (b:=y / 4294967296) (by omega) (by omega) (by omega) (by omega)
 have p2:=vW (a:=x / 4294967296) (b:=y%4294967296) (by omega) (by omega) (by omega) (by omega)
 have p3:=vW (a:=x%4294967296) (b:=y / 4294967296) (by omega) (by omega) (by omega) (by omega)
 have p4:=vW (a:=x%4294967296) (b:=y%4294967296) (by omega) (by omega) (by omega) (by omega)
 rw[ND x0 x1,ND y0 y1,NI x0,NI y0]
 generalize x*y=z at *
 rw[tC p1.1 (by omega),tC p2.1 (by omega),tC p3.1 (by omega),tC p4.1 (by omega)]
 generalize (x / 4294967296)*(y / 4294967296)=p at *
 generalize (x / 4294967296)*(y%4294967296)=q at *
 generalize (x%4294967296)*(y / 4294967296)=r at *
 generalize (x%4294967296)*(y%4294967296)=s at *
 rw[ND p2.1 (by omega),ND p3.1 (by omega),ND p4.1 (by omega),NI p2.1,NI p3.1,NI p4.1]
 rw[qK (p:=s / 4294967296) (q:=q%4294967296) (by omega) (by omega),qK (p:=s / 4294967296+q%4294967296) (q:=r%4294967296) (by omega) (by omega)]
 generalize hu:s / 4294967296+q%4294967296+r%4294967296=u at *
 rw[ND (x:=u) (by omega) (by omega),NI (x:=u) (by omega),tC (p:=u%4294967296) (q:=4294967296) (by omega) (by omega)]
 rw[qK (p:=u%4294967296*4294967296) (q:=s%4294967296) (by omega) (by omega)]
 rw[qK (p:=p) (q:=q / 4294967296) (by omega) (by omega),qK (p:=p+q / 4294967296) (q:=r / 4294967296) (by omega) (by omega),qK (p:=p+q / 4294967296+r / 4294967296) (q:=u / 4294967296) (by omega) (by omega)]
 simp only[wd,D.aS.injEq,D.agg.injEq,List.cons.injEq,D.v.injEq,Value.int.injEq,and_true,true_and]
 omega
end MeterS
end
noncomputable section
namespace MeterS
open Go Go.Dam Go.Proofs
set_option maxRecDepth 1000000
def jb:List Nat:=0::1::(List.replicate 2 2 ++ List.replicate 4 3 ++ List.replicate 8 4 ++ List.replicate 16 5 ++ List.replicate 32 6 ++ List.replicate 64 7 ++ List.replicate 128 8)
theorem ZU:jb=(List.range 256).map fun i=>if i=0 then 0 else Nat.log2 i+1:=by decide +kernel
def aV (n:Nat):Nat:=if n=0 then 0 else Nat.log2 n+1
theorem Wj (i:Nat) (h:i<256):jb.getD i 0=aV i:=by
 rw[ZU,List.getD_eq_getElem?_getD,List.getElem?_map,List.getElem?_range h];rfl
theorem fV (n k:Nat) (h:0<n / 2 ^ k):aV n=aV (n / 2 ^ k)+k:=by
 have hn:n≠0:=by rintro rfl;simp at h
 unfold aV
 rw[if_neg hn,if_neg (by omega)]
 have h1:n / 2 ^ k≠0:=by omega
 have e:Nat.log2 n=Nat.log2 (n / 2 ^ k)+k:=by
  rw[Nat.log2_eq_iff hn]
  have h2:=Nat.log2_self_le h1
  have h3:=Nat.lt_log2_self (n:=n / 2 ^ k)
  have hp:0<2 ^ k:=Nat.two_pow_pos k
  constructor
  ·rw[Nat.pow_add]
   exact Nat.le_trans (Nat.mul_le_mul_right _ h2) (Nat.div_mul_le_self n _)
  ·rw[show Nat.log2 (n / 2 ^ k)+k+1=(Nat.log2 (n / 2 ^ k)+1)+k by omega,Nat.pow_add]
   rw[←Nat.div_lt_iff_lt_mul hp]
   exact h3
 omega
theorem Gv (n:Nat) (k:Nat) (h:n<2 ^ k):aV n≤k:=by
 unfold aV
 split
 ·omega
 next hn=>have:=(Nat.log2_lt hn).2 h;omega
theorem Ud (n:Nat) (h:0<n):2 ^ (aV n - 1)≤n∧n<2 ^ aV n∧0<aV n:=by
 unfold aV
 rw[if_neg (by omega)]
 exact⟨Nat.log2_self_le (by omega),Nat.lt_log2_self,by omega⟩
theorem afC (x:Int) (k:Nat) (hk:k≤64):ai .shr .u64 x k=x / 2 ^ k:=by rw[CO (by omega) (by omega)];rfl
variable [iG]
theorem ae7 (x:Int):iY Pg (X0) 100000 [.d true, .d true, .d true] 180 [D.v (Value.int .u64 x)]=some (D.v
 (Value.int .i64
  (ai .add .i64 56
   (IntKind.i64.wrap
    ↑(jb.getD
      (IntKind.u8.wrap
        (ai .shr .u64 (ai .shr .u64 (ai .shr .u64 x 32) 16) 8)).toNat
      0)))),[decide
  (0≤
   IntKind.u8.wrap (ai .shr .u64 (ai .shr .u64 (ai .shr .u64 x 32) 16) 8)) =
 true,
 decide
  (IntKind.u8.wrap (ai .shr .u64 (ai .shr .u64 (ai .shr .u64 x 32) 16) 8) <
   256) =
 true,
 true=true,
 ah .geq (ai .shr .u64 (ai .shr .u64 x 32) 16) 256=true,
 true=true,
 ah .geq (ai .shr .u64 x 32) 65536=true,
 true=true,
 ah .geq x 4294967296=true]):=by kernel_rfl
theorem afJ (x:Int):iY Pg (X0) 100000 [.d true, .d true, .d false] 180 [D.v (Value.int .u64 x)]=some (D.v
 (Value.int .i64
  (ai .add .i64 48
   (IntKind.i64.wrap
    ↑(jb.getD
      (IntKind.u8.wrap (ai .shr .u64 (ai .shr .u64 x 32) 16)).toNat 0)))),[decide (0≤IntKind.u8.wrap (ai .shr .u64 (ai .shr .u64 x 32) 16))=true,
 decide
  (IntKind.u8.wrap (ai .shr .u64 (ai .shr .u64 x 32) 16) <
   256) =
 true,
 ah .geq (ai .shr .u64 (ai .shr .u64 x 32) 16) 256=false,
 true=true,
 ah .geq (ai .shr .u64 x 32) 65536=true,
 true=true,
 ah .geq x 4294967296=true]):=by kernel_rfl
theorem ac2 (x:Int):iY Pg (X0) 100000 [.d true, .d false, .d true] 180 [D.v (Value.int .u64 x)]=some (D.v
 (Value.int .i64
  (ai .add .i64 40
   (IntKind.i64.wrap
    ↑(jb.getD
      (IntKind.u8.wrap (ai .shr .u64 (ai .shr .u64 x 32) 8)).toNat 0)))),[decide (0≤IntKind.u8.wrap (ai .shr .u64 (ai .shr .u64 x 32) 8))=true,
 decide
  (IntKind.u8.wrap (ai .shr .u64 (ai .shr .u64 x 32) 8) <
   256) =
 true,
 true=true,
 ah .geq (ai .shr .u64 x 32) 256=true,
 ah .geq (ai .shr .u64 x 32) 65536=false,
 true=true,
 ah .geq x 4294967296=true]):=by kernel_rfl
theorem aci (x:Int):iY Pg (X0) 100000 [.d true, .d false, .d false] 180 [D.v (Value.int .u64 x)]=some (D.v
 (Value.int .i64
  (ai .add .i64 32
   (IntKind.i64.wrap
    ↑(jb.getD
      (IntKind.u8.wrap (ai .shr .u64 x 32)).toNat 0)))),[decide (0≤IntKind.u8.wrap (ai .shr .u64 x 32))=true,
 decide
  (IntKind.u8.wrap (ai .shr .u64 x 32) <
   256) =
 true,
 ah .geq (ai .shr .u64 x 32) 256=false,
 ah .geq (ai .shr .u64 x 32) 65536=false,
 true=true,
 ah .geq x 4294967296=true]):=by kernel_rfl
theorem afO (x:Int):iY Pg (X0) 100000 [.d false, .d true, .d true] 180 [D.v (Value.int .u64 x)]=some (D.v
 (Value.int .i64
  (ai .add .i64 24
   (IntKind.i64.wrap
    ↑(jb.getD
      (IntKind.u8.wrap (ai .shr .u64 (ai .shr .u64 x 16) 8)).toNat 0)))),[decide (0≤IntKind.u8.wrap (ai .shr .u64 (ai .shr .u64 x 16) 8))=true,
 decide
  (IntKind.u8.wrap (ai .shr .u64 (ai .shr .u64 x 16) 8) <
   256) =
 true,
 true=true,
 ah .geq (ai .shr .u64 x 16) 256=true,
 true=true,
 ah .geq x 65536=true,
 ah .geq x 4294967296=false]):=by kernel_rfl
theorem ac1 (x:Int):iY Pg (X0) 100000 [.d false, .d true, .d false] 180 [D.v (Value.int .u64 x)]=some (D.v
 (Value.int .i64
  (ai .add .i64 16
   (IntKind.i64.wrap
    ↑(jb.getD
      (IntKind.u8.wrap (ai .shr .u64 x 16)).toNat 0)))),[decide (0≤IntKind.u8.wrap (ai .shr .u64 x 16))=true,
 decide
  (IntKind.u8.wrap (ai .shr .u64 x 16) <
   256) =
 true,
 ah .geq (ai .shr .u64 x 16) 256=false,
 true=true,
 ah .geq x 65536=true,
 ah .geq x 4294967296=false]):=by kernel_rfl
theorem ae1 (x:Int):iY Pg (X0) 100000 [.d false, .d false, .d true] 180 [D.v (Value.int .u64 x)]=some (D.v
 (Value.int .i64
  (ai .add .i64 8
   (IntKind.i64.wrap
    ↑(jb.getD
      (IntKind.u8.wrap (ai .shr .u64 x 8)).toNat 0)))),[decide (0≤IntKind.u8.wrap (ai .shr .u64 x 8))=true,
 decide
  (IntKind.u8.wrap (ai .shr .u64 x 8) <
   256) =
 true,
 true=true,
 ah .geq x 256=true,
 ah .geq x 65536=false,
 ah .geq x 4294967296=false]):=by kernel_rfl
theorem aeO (x:Int):iY Pg (X0) 100000 [.d false, .d false, .d false] 180 [D.v (Value.int .u64 x)]=some (D.v
 (Value.int .i64
  (ai .add .i64 0
   (IntKind.i64.wrap
    ↑(jb.getD
      (IntKind.u8.wrap x).toNat 0)))),[decide (0≤IntKind.u8.wrap x)=true,
 decide
  (IntKind.u8.wrap x <
   256) =
 true,
 ah .geq x 256=false,
 ah .geq x 65536=false,
 ah .geq x 4294967296=false]):=by kernel_rfl
theorem U1 (x:Int) (res:D)
 (h0:((ah .geq x 4294967296)=true)→((ah .geq (ai .shr .u64 x 32) 65536)=true)→((ah .geq (ai .shr .u64 (ai .shr .u64 x 32) 16) 256)=true)→((decide
  (0≤
   IntKind.u8.wrap (ai .shr .u64 (ai .shr .u64 (ai .shr .u64 x 32) 16) 8)) =
 true)∧(decide
  (IntKind.u8.wrap (ai .shr .u64 (ai .shr .u64 (ai .shr .u64 x 32) 16) 8) <
   256) =
 true)∧True)∧res=D.v
 (Value.int .i64
  (ai .add .i64 56
   (IntKind.i64.wrap
    ↑(jb.getD
      (IntKind.u8.wrap
        (ai .shr .u64 (ai .shr .u64 (ai .shr .u64 x 32) 16) 8)).toNat
      0)))))
 (h1:((ah .geq x 4294967296)=true)→((ah .geq (ai .shr .u64 x 32) 65536)=true)→((ah .geq (ai .shr .u64 (ai .shr .u64 x 32) 16) 256)=false)→((decide (0≤IntKind.u8.wrap (ai .shr .u64 (ai .shr .u64 x 32) 16))=true)∧(decide
  (IntKind.u8.wrap (ai .shr .u64 (ai .shr .u64 x 32) 16) <
   256) =
 true)∧True)∧res=D.v
 (Value.int .i64
  (ai .add .i64 48
   (IntKind.i64.wrap
    ↑(jb.getD
      (IntKind.u8.wrap (ai .shr .u64 (ai .shr .u64 x 32) 16)).toNat 0)))))
 (h2:((ah .geq x 4294967296)=true)→((ah .geq (ai .shr .u64 x 32) 65536)=false)→((ah .geq (ai .shr .u64 x 32) 256)=true)→((decide (0≤IntKind.u8.wrap (ai .shr .u64 (ai .shr .u64 x 32) 8))=true)∧(decide
  (IntKind.u8.wrap (ai .shr .u64 (ai .shr .u64 x 32) 8) <
   256) =
 true)∧True)∧res=D.v
 (Value.int .i64
  (ai .add .i64 40
   (IntKind.i64.wrap
    ↑(jb.getD
      (IntKind.u8.wrap (ai .shr .u64 (ai .shr .u64 x 32) 8)).toNat 0)))))
 (h3:((ah .geq x 4294967296)=true)→((ah .geq (ai .shr .u64 x 32) 65536)=false)→((ah .geq (ai .shr .u64 x 32) 256)=false)→((decide (0≤IntKind.u8.wrap (ai .shr .u64 x 32))=true)∧(decide
  (IntKind.u8.wrap (ai .shr .u64 x 32) <
   256) =
 true)∧True)∧res=D.v
 (Value.int .i64
  (ai .add .i64 32
   (IntKind.i64.wrap
    ↑(jb.getD
      (IntKind.u8.wrap (ai .shr .u64 x 32)).toNat 0)))))
 (h4:((ah .geq x 4294967296)=false)→((ah .geq x 65536)=true)→((ah .geq (ai .shr .u64 x 16) 256)=true)→((decide (0≤IntKind.u8.wrap (ai .shr .u64 (ai .shr .u64 x 16) 8))=true)∧(decide
  (IntKind.u8.wrap (ai .shr .u64 (ai .shr .u64 x 16) 8) <
   256) =
 true)∧True)∧res=D.v
 (Value.int .i64
  (ai .add .i64 24
   (IntKind.i64.wrap
    ↑(jb.getD
      (IntKind.u8.wrap (ai .shr .u64 (ai .shr .u64 x 16) 8)).toNat 0)))))
 (h5:((ah .geq x 4294967296)=false)→((ah .geq x 65536)=true)→((ah .geq (ai .shr .u64 x 16) 256)=false)→((decide (0≤IntKind.u8.wrap (ai .shr .u64 x 16))=true)∧(decide
  (IntKind.u8.wrap (ai .shr .u64 x 16) <
   256) =
 true)∧True)∧res=D.v
 (Value.int .i64
  (ai .add .i64 16
   (IntKind.i64.wrap
    ↑(jb.getD
      (IntKind.u8.wrap (ai .shr .u64 x 16)).toNat 0)))))
 (h6:((ah .geq x 4294967296)=false)→((ah .geq x 65536)=false)→((ah .geq x 256)=true)→((decide (0≤IntKind.u8.wrap (ai .shr .u64 x 8))=true)∧(decide
  (IntKind.u8.wrap (ai .shr .u64 x 8) <
   256) =
 true)∧True)∧res=D.v
 (Value.int .i64
  (ai .add .i64 8
   (IntKind.i64.wrap
    ↑(jb.getD
      (IntKind.u8.wrap (ai .shr .u64 x 8)).toNat 0)))))
 (h7:((ah .geq x 4294967296)=false)→((ah .geq x 65536)=false)→((ah .geq x 256)=false)→((decide (0≤IntKind.u8.wrap x)=true)∧(decide
  (IntKind.u8.wrap x <
   256) =
 true)∧True)∧res=D.v
 (Value.int .i64
  (ai .add .i64 0
   (IntKind.i64.wrap
    ↑(jb.getD
      (IntKind.u8.wrap x).toNat 0))))):
 Kl 180 [D.v (Value.int .u64 x)] res:=by
 cases e0:(ah .geq x 4294967296) with
 |true=>
  cases e1:(ah .geq (ai .shr .u64 x 32) 65536) with
  |true=>
   cases e2:(ah .geq (ai .shr .u64 (ai .shr .u64 x 32) 16) 256) with
   |true=>
    exact aT (hX0) (ae7 x) ⟨(h0 e0 e1 e2).1.1,(h0 e0 e1 e2).1.2.1,rfl,e2,rfl,e1,rfl,e0,trivial⟩ (h0 e0 e1 e2).2
   |false=>
    exact aT (hX0) (afJ x) ⟨(h1 e0 e1 e2).1.1,(h1 e0 e1 e2).1.2.1,e2,rfl,e1,rfl,e0,trivial⟩ (h1 e0 e1 e2).2
  |false=>
   cases e2:(ah .geq (ai .shr .u64 x 32) 256) with
   |true=>
    exact aT (hX0) (ac2 x) ⟨(h2 e0 e1 e2).1.1,(h2 e0 e1 e2).1.2.1,rfl,e2,e1,rfl,e0,trivial⟩ (h2 e0 e1 e2).2
   |false=>
    exact aT (hX0) (aci x) ⟨(h3 e0 e1 e2).1.1,(h3 e0 e1 e2).1.2.1,e2,e1,rfl,e0,trivial⟩ (h3 e0 e1 e2).2
 |false=>
  cases e1:(ah .geq x 65536) with
  |true=>
   cases e2:(ah .geq (ai .shr .u64 x 16) 256) with
   |true=>
    exact aT (hX0) (afO x) ⟨(h4 e0 e1 e2).1.1,(h4 e0 e1 e2).1.2.1,rfl,e2,rfl,e1,e0,trivial⟩ (h4 e0 e1 e2).2
   |false=>
    exact aT (hX0) (ac1 x) ⟨(h5 e0 e1 e2).1.1,(h5 e0 e1 e2).1.2.1,e2,rfl,e1,e0,trivial⟩ (h5 e0 e1 e2).2
  |false=>
   cases e2:(ah .geq x 256) with
   |true=>
    exact aT (hX0) (ae1 x) ⟨(h6 e0 e1 e2).1.1,(h6 e0 e1 e2).1.2.1,rfl,e2,e1,e0,trivial⟩ (h6 e0 e1 e2).2
   |false=>
    exact aT (hX0) (aeO x) ⟨(h7 e0 e1 e2).1.1,(h7 e0 e1 e2).1.2.1,e2,e1,e0,trivial⟩ (h7 e0 e1 e2).2
theorem aco (n:Nat) (h:n<18446744073709551616):Kl 180 [u64 n] (i64 (aV n)):=by
 have tb:∀ m:Nat,m<256→jb.getD (IntKind.wrap .u8 (m:Int)).toNat 0=aV m:=fun m hm=>by
  rw[wrap_u8,show((m:Int)%256).toNat=m by omega];exact Wj m hm
 have w:∀ m:Nat,m<256→IntKind.wrap .i64 ((aV m:Nat):Int)=(aV m:Int):=fun m hm=>by
  have:=Gv m 8 (by omega);exact aY (by omega) (by omega)
 have s32:ai .shr .u64 (n:Int) 32=((n / 2 ^ 32:Nat):Int):=by rw[EC];omega
 have s16:∀ m:Nat,ai .shr .u64 (m:Int) 16=((m / 2 ^ 16:Nat):Int):=fun m=>by rw[show(16:Int)=((16:Nat):Int) from rfl,afC _ _ (by decide)];omega
 have s8:∀ m:Nat,ai .shr .u64 (m:Int) 8=((m / 2 ^ 8:Nat):Int):=fun m=>by rw[show(8:Int)=((8:Nat):Int) from rfl,afC _ _ (by decide)];omega
 have leaf:∀ (m:Nat) (k:Int),m<256→(aV n:Int)=aV m+k→0≤k→k≤56→((0≤IntKind.wrap .u8 (m:Int))∧(IntKind.wrap .u8 (m:Int)<256)∧True)∧i64 (aV n)=D.v (.int .i64 (IntKind.wrap .i64 (k+IntKind.wrap .i64 ((jb.getD (IntKind.wrap .u8 (m:Int)).toNat 0:Nat):Int)))):=fun m k hm he h0 h1=>by
  have hl:=Gv m 8 (by omega)
  rw[tb m hm,w m hm,aY (by omega) (by omega),wrap_u8]
  refine⟨⟨by omega,by omega,trivial⟩,?_⟩
  simp only[D.v.injEq,Value.int.injEq,true_and]
  omega
 refine U1 n _ ?_ ?_ ?_ ?_ ?_ ?_ ?_ ?_
 all_goals
  intros
  simp only[dV,dS,s32,s16,s8,decide_eq_true_eq,dH] at *
 ·have a:=fV n 32 (by omega)
  have b:=fV (n / 2 ^ 32) 16 (by omega)
  have c:=fV (n / 2 ^ 32 / 2 ^ 16) 8 (by omega)
  exact leaf _ 56 (by omega) (by omega) (by omega) (by omega)
 ·have a:=fV n 32 (by omega)
  have b:=fV (n / 2 ^ 32) 16 (by omega)
  exact leaf _ 48 (by omega) (by omega) (by omega) (by omega)
 ·have a:=fV n 32 (by omega)
  have c:=fV (n / 2 ^ 32) 8 (by omega)
  exact leaf _ 40 (by omega) (by omega) (by omega) (by omega)
 ·have a:=fV n 32 (by omega)
  exact leaf _ 32 (by omega) (by omega) (by omega) (by omega)
 ·have b:=fV n 16 (by omega)
  have c:=fV (n / 2 ^ 16) 8 (by omega)
  exact leaf _ 24 (by omega) (by omega) (by omega) (by omega)
 ·have b:=fV n 16 (by omega)
  exact leaf _ 16 (by omega) (by omega) (by omega) (by omega)
 ·have c:=fV n 8 (by omega)
  exact leaf _ 8 (by omega) (by omega) (by omega) (by omega)
 ·exact leaf _ 0 (by omega) (by omega) (by omega) (by omega)
end MeterS
end
noncomputable section
namespace MeterS
open Go Go.Dam Go.Proofs
set_option maxRecDepth 1000000
variable [iG]
def aot:List D→Option (D×List Prop)
 |[.v (.int .u64 x)]=>some (i64 (aV x.toNat),[0≤x,x<18446744073709551616])
 |_=>none
def X1:aB:=aF 180 (.call aot) X0
theorem hX1:bT Pg X1:=aj (fun args res l h hl=>by
 unfold aot at h
 split at h
 next x=>
  obtain⟨rfl,rfl⟩:=dB h
  obtain⟨h0,h1,_⟩:=hl
  have:=aco x.toNat (by omega)
  rwa[Int.toNat_of_nonneg h0] at this
 ·cases h) hX0
theorem ahI (x:Int):iY Pg (X1) 100000 [] 175 [D.v (Value.int .u64 x)]=some (D.v (Value.int .i64 (ai .sub .i64 64 ↑(aV x.toNat))),[0≤x,
 x<18446744073709551616]):=by kernel_rfl
theorem XG (x:Int) (res:D)
 (h0:((0≤x)∧(x<18446744073709551616)∧True)∧res=D.v (Value.int .i64 (ai .sub .i64 64 ↑(aV x.toNat)))):
 Kl 175 [D.v (Value.int .u64 x)] res:=by
 exact aT (hX1) (ahI x) ⟨(h0).1.1,(h0).1.2.1,trivial⟩ (h0).2
def lzC:List D→Option (D×List Prop)
 |[.v (.int .u64 x)]=>some (i64 (64 - aV x.toNat),[0≤x,x<18446744073709551616])
 |_=>none
def X2:aB:=aF 175 (.call lzC) X1
theorem hX2:bT Pg X2:=aj (fun args res l h hl=>by
 unfold lzC at h
 split at h
 next x=>
  obtain⟨rfl,rfl⟩:=dB h
  obtain⟨h0,h1,_⟩:=hl
  refine XG x _ ⟨⟨h0,h1,trivial⟩,?_⟩
  have:=Gv x.toNat 64 (by omega)
  rw[dG,aY (by omega) (by omega)]
 ·cases h) hX1
end MeterS
end
noncomputable section
namespace MeterS
open Go Go.Dam Go.Proofs
set_option maxRecDepth 1000000
theorem VA (a b V:Nat) (ha:a<V) (hb:b<4294967296):a*4294967296+b<V*4294967296:=by omega
theorem afk (h p r a b K:Nat) (hK:p*r=K):(h*K+(r*a+b))*p=(h*p+a)*K+b*p:=by
 have h2:r*a*p=a*K:=by rw[←hK,Nat.mul_comm r a,Nat.mul_assoc,Nat.mul_comm r p]
 have h3:h*K*p=h*p*K:=Nat.mul_right_comm _ _ _
 rw[Nat.add_mul,Nat.add_mul,Nat.add_mul,h2,h3]
 omega
theorem aiB (V a b c d w1 w0:Nat) (h:V*c+d=b*4294967296+w1):(V*a+b)*18446744073709551616+(4294967296*w1+w0)=(a*4294967296+c)*(V*4294967296)+(d*4294967296+w0):=by
 have e:(a*4294967296+c)*(V*4294967296)=V*a*18446744073709551616+V*c*4294967296:=by
  rw[Nat.add_mul,show a*4294967296*(V*4294967296)=V*a*18446744073709551616 by rw[Nat.mul_mul_mul_comm,Nat.mul_comm a V],show c*(V*4294967296)=V*c*4294967296 by rw[←Nat.mul_assoc,Nat.mul_comm c V]]
 rw[e]
 generalize V*a=m at *
 generalize V*c=n at *
 omega
set_option maxRecDepth 100000 in
theorem adF (y h l p r p':Nat) (hpr:p*r=18446744073709551616) (hp:p=4294967296*p') (hy:0<y) (hh:h<y) (hl:l<18446744073709551616) (hp0:0<p'):
  let U:=h*p+l / r
  let W:=(l%r)*p
  let V:=y*p'
  let q1:=U / V
  let T:=U%V*4294967296+W / 4294967296
  let q0:=T / V
  U<V*4294967296∧q1<4294967296∧q0<4294967296∧T<V*4294967296∧W<18446744073709551616∧
  q1*4294967296+q0=(h*18446744073709551616+l) / y∧(T%V*4294967296+W%4294967296) / p=(h*18446744073709551616+l)%y:=by
 intro U W V q1 T q0
 have hV:0<V:=Nat.mul_pos hy hp0
 have hr:0<r:=by
  rcases Nat.eq_zero_or_pos r with rfl | h
  ·simp at hpr
  ·exact h
 have hpp:0<p:=by omega
 have hlr:l / r<p:=by rw[Nat.div_lt_iff_lt_mul hr];omega
 have hlm:l%r<r:=Nat.mod_lt _ hr
 have hU:U<V*4294967296:=by
  have:h*p+p≤y*p:=by
   have:=Nat.mul_le_mul_right p (show h+1≤y by omega)
   rw[Nat.add_mul] at this;omega
  have e:V*4294967296=y*p:=by show y*p'*4294967296=y*p;rw[hp,Nat.mul_assoc,Nat.mul_comm p']
  show h*p+l / r<_
  omega
 have hW:W<18446744073709551616:=by
  have h1:(l%r)*p<r*p:=Nat.mul_lt_mul_of_pos_right hlm hpp
  rw[Nat.mul_comm r p,hpr] at h1
  exact h1
 have hq1:q1<4294967296:=by
  show U / V<_
  rw[Nat.div_lt_iff_lt_mul hV,Nat.mul_comm];exact hU
 have hT:T<V*4294967296:=by
  have h1:U%V<V:=Nat.mod_lt _ hV
  have h2:W / 4294967296<4294967296:=by rw[Nat.div_lt_iff_lt_mul (by decide)];exact hW
  exact VA _ _ _ h1 h2
 have hq0:q0<4294967296:=by
  show T / V<_
  rw[Nat.div_lt_iff_lt_mul hV,Nat.mul_comm];exact hT
 have e1:(h*18446744073709551616+l)*p=U*18446744073709551616+W:=by
  have h1:r*(l / r)+l%r=l:=Nat.div_add_mod l r
  have:=afk h p r (l / r) (l%r) _ hpr
  rw[h1] at this
  exact this
 have e2:U=V*(U / V)+U%V:=(Nat.div_add_mod U V).symm
 have e3:T=V*(T / V)+T%V:=(Nat.div_add_mod T V).symm
 have e4:W=4294967296*(W / 4294967296)+W%4294967296:=(Nat.div_add_mod W _).symm
 have hyp:y*p=V*4294967296:=by show y*p=y*p'*4294967296;rw[hp,Nat.mul_assoc,Nat.mul_comm p']
 have key:(h*18446744073709551616+l)*p=(q1*4294967296+q0)*(y*p)+(T%V*4294967296+W%4294967296):=by
  rw[e1,hyp]
  have h1:V*(T / V)+T%V=U%V*4294967296+W / 4294967296:=e3.symm
  have:=aiB V (U / V) (U%V) (T / V) (T%V) (W / 4294967296) (W%4294967296) h1
  rw[←e2,←e4] at this
  exact this
 have hR:T%V*4294967296+W%4294967296<y*p:=by
  have h1:T%V<V:=Nat.mod_lt _ hV
  rw[hyp]
  have h4:W%4294967296<4294967296:=Nat.mod_lt _ (by decide)
  exact VA _ _ _ h1 h4
 have hyp0:0<y*p:=Nat.mul_pos hy hpp
 refine⟨hU,hq1,hq0,hT,hW,?_,?_⟩
 ·have:=congrArg (· / (y*p)) key
  simp only[Nat.mul_div_mul_right _ _ hpp] at this
  rw[this,Nat.add_comm (_*(y*p)),Nat.add_mul_div_right _ _ hyp0,Nat.div_eq_of_lt hR,Nat.zero_add]
 ·have:=congrArg (· % (y*p)) key
  simp only[Nat.mul_mod_mul_right] at this
  rw[Nat.add_comm (_*(y*p)),Nat.add_mul_mod_self_right,Nat.mod_eq_of_lt hR] at this
  rw[←this,Nat.mul_div_cancel _ hpp]
theorem afr (a p b:Nat) (k:Nat) (hp:p=2 ^ k) (hb:b<p) (h:a*p+b<18446744073709551616):ai .or .u64 ((a*p:Nat):Int) ((b:Nat):Int)=((a*p+b:Nat):Int):=by
 show IntKind.wrap .u64 ((BitVec.ofInt 64 ((a*p:Nat):Int) ||| BitVec.ofInt 64 ((b:Nat):Int)).toNat:Int)=_
 rw[wrap_u64,BitVec.ofInt_natCast,BitVec.ofInt_natCast,BitVec.toNat_or,BitVec.toNat_ofNat,BitVec.toNat_ofNat]
 rw[Nat.mod_eq_of_lt (show a*p<2 ^ 64 by omega),Nat.mod_eq_of_lt (show b<2 ^ 64 by omega)]
 have e:a*p ||| b=a*p+b:=by subst hp;rw[Nat.mul_comm,←Nat.two_pow_add_eq_or_of_lt hb]
 rw[e];omega
theorem Ua (a s:Nat) (hs:s≤64) (h:a*2 ^ s<18446744073709551616):ai .shl .u64 (a:Int) (s:Int)=((a*2 ^ s:Nat):Int):=by
 rw[NK (by omega) (by omega),Int.toNat_natCast,show(a:Int)*2 ^ s=((a*2 ^ s:Nat):Int) by push_cast;rfl,wrap_u64];omega
theorem aeW (l s L:Nat) (hs:s+L=64):ai .shl .u64 (l:Int) (s:Int)=(((l%2 ^ L)*2 ^ s:Nat):Int):=by
 rw[NK (by omega) (by omega),Int.toNat_natCast,show(l:Int)*2 ^ s=((l*2 ^ s:Nat):Int) by push_cast;rfl,wrap_u64]
 have e:l*2 ^ s%18446744073709551616=(l%2 ^ L)*2 ^ s:=by
  have:18446744073709551616=2 ^ L*2 ^ s:=by rw[←Nat.pow_add,Nat.add_comm,hs]
  rw[this,Nat.mul_mod_mul_right]
 rw[←e];omega
theorem RJ (l L:Nat) (h:L≤64):ai .shr .u64 (l:Int) (L:Int)=((l / 2 ^ L:Nat):Int):=by
 rw[afC _ _ h];push_cast;rfl
theorem G7 (a b:Nat) (h:a / b<18446744073709551616):ai .quo .u64 (a:Int) (b:Int)=((a / b:Nat):Int):=by
 rw[PL _ (by omega),show(a:Int) / b=((a / b:Nat):Int) from(Int.natCast_ediv a b).symm,wrap_u64]
 generalize a / b=q at *
 omega
theorem RY (U V a:Nat) (h:U%V*4294967296+a<18446744073709551616):
  ai .sub .u64 (ai .add .u64 (ai .mul .u64 (U:Int) 4294967296) (a:Int)) (ai .mul .u64 ((U / V:Nat):Int) ((V*4294967296:Nat):Int))=((U%V*4294967296+a:Nat):Int):=by
 simp only[dG,dH,mO,wrap_u64]
 have e:((U / V:Nat):Int)*((V*4294967296:Nat):Int)=((V*(U / V):Nat):Int)*4294967296:=by
  rw[←Int.natCast_mul,Nat.mul_left_comm,←Nat.mul_assoc,Int.natCast_mul];rfl
 have h2:=Nat.div_add_mod U V
 rw[e]
 generalize V*(U / V)=m at *
 generalize U%V=n at *
 omega
theorem aff (W:Nat) (h:W<18446744073709551616):ai .and .u64 (W:Int) 4294967295=((W%4294967296:Nat):Int):=by
 have:=pJ (x:=(W:Int)) 32 (by decide) (by omega) (by omega)
 rw[show(2:Int) ^ 32 - 1=4294967295 from rfl] at this
 rw[this];omega
variable [iG]
theorem aaj (h l y:Int):iY Pg (X2) 100000 [.d false, .d false, .d true] 160 [D.v (Value.int .u64 h),D.v (Value.int .u64 l),D.v (Value.int .u64 y)]=some (D.aS
 [D.v (Value.int .u64 (ai .quo .u64 l y)),
  D.v (Value.int .u64 (ai .rem .u64 l y))],[decide (y=0)=false,
 decide (y=0)=false,
 ah .eql h 0=true,
 ah .leq y h=false,
 ah .eql y 0=false]):=by kernel_rfl
theorem Qo (h l y:Int) (res:D)
 (e0:(ah .eql y 0)=false)
 (e1:(ah .leq y h)=false)
 (e2:(ah .eql h 0)=true)
 (h0:((decide (y=0)=false)∧(decide (y=0)=false)∧True)∧res=D.aS
 [D.v (Value.int .u64 (ai .quo .u64 l y)),
  D.v (Value.int .u64 (ai .rem .u64 l y))]):
 Kl 160 [D.v (Value.int .u64 h),D.v (Value.int .u64 l),D.v (Value.int .u64 y)] res:=by
 exact aT (hX2) (aaj h l y) ⟨(h0).1.1,(h0).1.2.1,e2,e1,e0,trivial⟩ (h0).2
theorem abD (h l y:Int):iY Pg (X2) 100000 [.d false, .d false, .d false,PE.u, .d false, .c 6, .d false,PE.u, .d false, .c 6, .d false] 160 [D.v (Value.int .u64 h),D.v (Value.int .u64 l),D.v (Value.int .u64 y)]=some (D.aS
 [D.v
   (Value.int .u64
    (ai .add .u64
     (ai .mul .u64
      (ai .quo .u64
       (ai .or .u64 (ai .shl .u64 h (IntKind.u64.wrap (64 - ↑(aV y.toNat))))
        (ai .shr .u64 l (ai .sub .u64 64 (IntKind.u64.wrap (64 - ↑(aV y.toNat))))))
       (ai .shr .u64 (ai .shl .u64 y (IntKind.u64.wrap (64 - ↑(aV y.toNat)))) 32))
      4294967296)
     (ai .quo .u64
      (ai .sub .u64
       (ai .add .u64
        (ai .mul .u64
         (ai .or .u64 (ai .shl .u64 h (IntKind.u64.wrap (64 - ↑(aV y.toNat))))
          (ai .shr .u64 l
           (ai .sub .u64 64 (IntKind.u64.wrap (64 - ↑(aV y.toNat))))))
         4294967296)
        (ai .shr .u64 (ai .shl .u64 l (IntKind.u64.wrap (64 - ↑(aV y.toNat)))) 32))
       (ai .mul .u64
        (ai .quo .u64
         (ai .or .u64 (ai .shl .u64 h (IntKind.u64.wrap (64 - ↑(aV y.toNat))))
          (ai .shr .u64 l
           (ai .sub .u64 64 (IntKind.u64.wrap (64 - ↑(aV y.toNat))))))
         (ai .shr .u64 (ai .shl .u64 y (IntKind.u64.wrap (64 - ↑(aV y.toNat))))
          32))
        (ai .shl .u64 y (IntKind.u64.wrap (64 - ↑(aV y.toNat))))))
      (ai .shr .u64 (ai .shl .u64 y (IntKind.u64.wrap (64 - ↑(aV y.toNat)))) 32)))),
  D.v
   (Value.int .u64
    (ai .shr .u64
     (ai .sub .u64
      (ai .add .u64
       (ai .mul .u64
        (ai .sub .u64
         (ai .add .u64
          (ai .mul .u64
           (ai .or .u64 (ai .shl .u64 h (IntKind.u64.wrap (64 - ↑(aV y.toNat))))
            (ai .shr .u64 l
             (ai .sub .u64 64 (IntKind.u64.wrap (64 - ↑(aV y.toNat))))))
           4294967296)
          (ai .shr .u64 (ai .shl .u64 l (IntKind.u64.wrap (64 - ↑(aV y.toNat))))
           32))
         (ai .mul .u64
          (ai .quo .u64
           (ai .or .u64 (ai .shl .u64 h (IntKind.u64.wrap (64 - ↑(aV y.toNat))))
            (ai .shr .u64 l
             (ai .sub .u64 64 (IntKind.u64.wrap (64 - ↑(aV y.toNat))))))
           (ai .shr .u64 (ai .shl .u64 y (IntKind.u64.wrap (64 - ↑(aV y.toNat))))
            32))
          (ai .shl .u64 y (IntKind.u64.wrap (64 - ↑(aV y.toNat))))))
        4294967296)
       (ai .and .u64 (ai .shl .u64 l (IntKind.u64.wrap (64 - ↑(aV y.toNat))))
        4294967295))
      (ai .mul .u64
       (ai .quo .u64
        (ai .sub .u64
         (ai .add .u64
          (ai .mul .u64
           (ai .or .u64 (ai .shl .u64 h (IntKind.u64.wrap (64 - ↑(aV y.toNat))))
            (ai .shr .u64 l
             (ai .sub .u64 64 (IntKind.u64.wrap (64 - ↑(aV y.toNat))))))
           4294967296)
          (ai .shr .u64 (ai .shl .u64 l (IntKind.u64.wrap (64 - ↑(aV y.toNat))))
           32))
         (ai .mul .u64
          (ai .quo .u64
           (ai .or .u64 (ai .shl .u64 h (IntKind.u64.wrap (64 - ↑(aV y.toNat))))
            (ai .shr .u64 l
             (ai .sub .u64 64 (IntKind.u64.wrap (64 - ↑(aV y.toNat))))))
           (ai .shr .u64 (ai .shl .u64 y (IntKind.u64.wrap (64 - ↑(aV y.toNat))))
            32))
          (ai .shl .u64 y (IntKind.u64.wrap (64 - ↑(aV y.toNat))))))
        (ai .shr .u64 (ai .shl .u64 y (IntKind.u64.wrap (64 - ↑(aV y.toNat)))) 32))
       (ai .shl .u64 y (IntKind.u64.wrap (64 - ↑(aV y.toNat))))))
     (IntKind.u64.wrap (64 - ↑(aV y.toNat)))))],[decide (0≤IntKind.u64.wrap (64 - ↑(aV y.toNat)))=true,
 ah .gtr
  (ai .mul .u64
   (ai .quo .u64
    (ai .sub .u64
     (ai .add .u64
      (ai .mul .u64
       (ai .or .u64 (ai .shl .u64 h (IntKind.u64.wrap (64 - ↑(aV y.toNat))))
        (ai .shr .u64 l (ai .sub .u64 64 (IntKind.u64.wrap (64 - ↑(aV y.toNat))))))
       4294967296)
      (ai .shr .u64 (ai .shl .u64 l (IntKind.u64.wrap (64 - ↑(aV y.toNat)))) 32))
     (ai .mul .u64
      (ai .quo .u64
       (ai .or .u64 (ai .shl .u64 h (IntKind.u64.wrap (64 - ↑(aV y.toNat))))
        (ai .shr .u64 l (ai .sub .u64 64 (IntKind.u64.wrap (64 - ↑(aV y.toNat))))))
       (ai .shr .u64 (ai .shl .u64 y (IntKind.u64.wrap (64 - ↑(aV y.toNat)))) 32))
      (ai .shl .u64 y (IntKind.u64.wrap (64 - ↑(aV y.toNat))))))
    (ai .shr .u64 (ai .shl .u64 y (IntKind.u64.wrap (64 - ↑(aV y.toNat)))) 32))
   (ai .and .u64 (ai .shl .u64 y (IntKind.u64.wrap (64 - ↑(aV y.toNat)))) 4294967295))
  (ai .add .u64
   (ai .mul .u64 4294967296
    (ai .sub .u64
     (ai .sub .u64
      (ai .add .u64
       (ai .mul .u64
        (ai .or .u64 (ai .shl .u64 h (IntKind.u64.wrap (64 - ↑(aV y.toNat))))
         (ai .shr .u64 l
          (ai .sub .u64 64 (IntKind.u64.wrap (64 - ↑(aV y.toNat))))))
        4294967296)
       (ai .shr .u64 (ai .shl .u64 l (IntKind.u64.wrap (64 - ↑(aV y.toNat)))) 32))
      (ai .mul .u64
       (ai .quo .u64
        (ai .or .u64 (ai .shl .u64 h (IntKind.u64.wrap (64 - ↑(aV y.toNat))))
         (ai .shr .u64 l
          (ai .sub .u64 64 (IntKind.u64.wrap (64 - ↑(aV y.toNat))))))
        (ai .shr .u64 (ai .shl .u64 y (IntKind.u64.wrap (64 - ↑(aV y.toNat)))) 32))
       (ai .shl .u64 y (IntKind.u64.wrap (64 - ↑(aV y.toNat))))))
     (ai .mul .u64
      (ai .quo .u64
       (ai .sub .u64
        (ai .add .u64
         (ai .mul .u64
          (ai .or .u64 (ai .shl .u64 h (IntKind.u64.wrap (64 - ↑(aV y.toNat))))
           (ai .shr .u64 l
            (ai .sub .u64 64 (IntKind.u64.wrap (64 - ↑(aV y.toNat))))))
          4294967296)
         (ai .shr .u64 (ai .shl .u64 l (IntKind.u64.wrap (64 - ↑(aV y.toNat))))
          32))
        (ai .mul .u64
         (ai .quo .u64
          (ai .or .u64 (ai .shl .u64 h (IntKind.u64.wrap (64 - ↑(aV y.toNat))))
           (ai .shr .u64 l
            (ai .sub .u64 64 (IntKind.u64.wrap (64 - ↑(aV y.toNat))))))
          (ai .shr .u64 (ai .shl .u64 y (IntKind.u64.wrap (64 - ↑(aV y.toNat))))
           32))
         (ai .shl .u64 y (IntKind.u64.wrap (64 - ↑(aV y.toNat))))))
       (ai .shr .u64 (ai .shl .u64 y (IntKind.u64.wrap (64 - ↑(aV y.toNat)))) 32))
      (ai .shr .u64 (ai .shl .u64 y (IntKind.u64.wrap (64 - ↑(aV y.toNat)))) 32))))
   (ai .and .u64 (ai .shl .u64 l (IntKind.u64.wrap (64 - ↑(aV y.toNat)))) 4294967295)) =
 false,
 ah .geq
  (ai .quo .u64
   (ai .sub .u64
    (ai .add .u64
     (ai .mul .u64
      (ai .or .u64 (ai .shl .u64 h (IntKind.u64.wrap (64 - ↑(aV y.toNat))))
       (ai .shr .u64 l (ai .sub .u64 64 (IntKind.u64.wrap (64 - ↑(aV y.toNat))))))
      4294967296)
     (ai .shr .u64 (ai .shl .u64 l (IntKind.u64.wrap (64 - ↑(aV y.toNat)))) 32))
    (ai .mul .u64
     (ai .quo .u64
      (ai .or .u64 (ai .shl .u64 h (IntKind.u64.wrap (64 - ↑(aV y.toNat))))
       (ai .shr .u64 l (ai .sub .u64 64 (IntKind.u64.wrap (64 - ↑(aV y.toNat))))))
      (ai .shr .u64 (ai .shl .u64 y (IntKind.u64.wrap (64 - ↑(aV y.toNat)))) 32))
     (ai .shl .u64 y (IntKind.u64.wrap (64 - ↑(aV y.toNat))))))
   (ai .shr .u64 (ai .shl .u64 y (IntKind.u64.wrap (64 - ↑(aV y.toNat)))) 32))
  4294967296 =
 false,
 decide (ai .shr .u64 (ai .shl .u64 y (IntKind.u64.wrap (64 - ↑(aV y.toNat)))) 32=0) =
 false,
 ah .gtr
  (ai .mul .u64
   (ai .quo .u64
    (ai .or .u64 (ai .shl .u64 h (IntKind.u64.wrap (64 - ↑(aV y.toNat))))
     (ai .shr .u64 l (ai .sub .u64 64 (IntKind.u64.wrap (64 - ↑(aV y.toNat))))))
    (ai .shr .u64 (ai .shl .u64 y (IntKind.u64.wrap (64 - ↑(aV y.toNat)))) 32))
   (ai .and .u64 (ai .shl .u64 y (IntKind.u64.wrap (64 - ↑(aV y.toNat)))) 4294967295))
  (ai .add .u64
   (ai .mul .u64 4294967296
    (ai .sub .u64
     (ai .or .u64 (ai .shl .u64 h (IntKind.u64.wrap (64 - ↑(aV y.toNat))))
      (ai .shr .u64 l (ai .sub .u64 64 (IntKind.u64.wrap (64 - ↑(aV y.toNat))))))
     (ai .mul .u64
      (ai .quo .u64
       (ai .or .u64 (ai .shl .u64 h (IntKind.u64.wrap (64 - ↑(aV y.toNat))))
        (ai .shr .u64 l (ai .sub .u64 64 (IntKind.u64.wrap (64 - ↑(aV y.toNat))))))
       (ai .shr .u64 (ai .shl .u64 y (IntKind.u64.wrap (64 - ↑(aV y.toNat)))) 32))
      (ai .shr .u64 (ai .shl .u64 y (IntKind.u64.wrap (64 - ↑(aV y.toNat)))) 32))))
   (ai .shr .u64 (ai .shl .u64 l (IntKind.u64.wrap (64 - ↑(aV y.toNat)))) 32)) =
 false,
 ah .geq
  (ai .quo .u64
   (ai .or .u64 (ai .shl .u64 h (IntKind.u64.wrap (64 - ↑(aV y.toNat))))
    (ai .shr .u64 l (ai .sub .u64 64 (IntKind.u64.wrap (64 - ↑(aV y.toNat))))))
   (ai .shr .u64 (ai .shl .u64 y (IntKind.u64.wrap (64 - ↑(aV y.toNat)))) 32))
  4294967296 =
 false,
 decide (ai .shr .u64 (ai .shl .u64 y (IntKind.u64.wrap (64 - ↑(aV y.toNat)))) 32=0) =
 false,
 true=true,
 decide (0≤IntKind.u64.wrap (64 - ↑(aV y.toNat)))=true,
 decide (0≤ai .sub .u64 64 (IntKind.u64.wrap (64 - ↑(aV y.toNat))))=true,
 decide (0≤IntKind.u64.wrap (64 - ↑(aV y.toNat)))=true,
 true=true,
 decide (0≤IntKind.u64.wrap (64 - ↑(aV y.toNat)))=true,
 0≤y,
 y<18446744073709551616,
 ah .eql h 0=false,
 ah .leq y h=false,
 ah .eql y 0=false]):=by kernel_rfl
theorem OE (h l y:Int) (res:D)
 (e0:(ah .eql y 0)=false)
 (e1:(ah .leq y h)=false)
 (e2:(ah .eql h 0)=false)
 (e3:(ah .geq
 (ai .quo .u64
  (ai .or .u64 (ai .shl .u64 h (IntKind.u64.wrap (64 - ↑(aV y.toNat))))
   (ai .shr .u64 l (ai .sub .u64 64 (IntKind.u64.wrap (64 - ↑(aV y.toNat))))))
  (ai .shr .u64 (ai .shl .u64 y (IntKind.u64.wrap (64 - ↑(aV y.toNat)))) 32))
 4294967296)=false)
 (e4:(ah .gtr
 (ai .mul .u64
  (ai .quo .u64
   (ai .or .u64 (ai .shl .u64 h (IntKind.u64.wrap (64 - ↑(aV y.toNat))))
    (ai .shr .u64 l (ai .sub .u64 64 (IntKind.u64.wrap (64 - ↑(aV y.toNat))))))
   (ai .shr .u64 (ai .shl .u64 y (IntKind.u64.wrap (64 - ↑(aV y.toNat)))) 32))
  (ai .and .u64 (ai .shl .u64 y (IntKind.u64.wrap (64 - ↑(aV y.toNat)))) 4294967295))
 (ai .add .u64
  (ai .mul .u64 4294967296
   (ai .sub .u64
    (ai .or .u64 (ai .shl .u64 h (IntKind.u64.wrap (64 - ↑(aV y.toNat))))
     (ai .shr .u64 l (ai .sub .u64 64 (IntKind.u64.wrap (64 - ↑(aV y.toNat))))))
    (ai .mul .u64
     (ai .quo .u64
      (ai .or .u64 (ai .shl .u64 h (IntKind.u64.wrap (64 - ↑(aV y.toNat))))
       (ai .shr .u64 l (ai .sub .u64 64 (IntKind.u64.wrap (64 - ↑(aV y.toNat))))))
      (ai .shr .u64 (ai .shl .u64 y (IntKind.u64.wrap (64 - ↑(aV y.toNat)))) 32))
     (ai .shr .u64 (ai .shl .u64 y (IntKind.u64.wrap (64 - ↑(aV y.toNat)))) 32))))
  (ai .shr .u64 (ai .shl .u64 l (IntKind.u64.wrap (64 - ↑(aV y.toNat)))) 32)))=false)
 (e5:(ah .geq
 (ai .quo .u64
  (ai .sub .u64
   (ai .add .u64
    (ai .mul .u64
     (ai .or .u64 (ai .shl .u64 h (IntKind.u64.wrap (64 - ↑(aV y.toNat))))
      (ai .shr .u64 l (ai .sub .u64 64 (IntKind.u64.wrap (64 - ↑(aV y.toNat))))))
     4294967296)
    (ai .shr .u64 (ai .shl .u64 l (IntKind.u64.wrap (64 - ↑(aV y.toNat)))) 32))
   (ai .mul .u64
    (ai .quo .u64
     (ai .or .u64 (ai .shl .u64 h (IntKind.u64.wrap (64 - ↑(aV y.toNat))))
      (ai .shr .u64 l (ai .sub .u64 64 (IntKind.u64.wrap (64 - ↑(aV y.toNat))))))
     (ai .shr .u64 (ai .shl .u64 y (IntKind.u64.wrap (64 - ↑(aV y.toNat)))) 32))
    (ai .shl .u64 y (IntKind.u64.wrap (64 - ↑(aV y.toNat))))))
  (ai .shr .u64 (ai .shl .u64 y (IntKind.u64.wrap (64 - ↑(aV y.toNat)))) 32))
 4294967296)=false)
 (e6:(ah .gtr
 (ai .mul .u64
  (ai .quo .u64
   (ai .sub .u64
    (ai .add .u64
     (ai .mul .u64
      (ai .or .u64 (ai .shl .u64 h (IntKind.u64.wrap (64 - ↑(aV y.toNat))))
       (ai .shr .u64 l (ai .sub .u64 64 (IntKind.u64.wrap (64 - ↑(aV y.toNat))))))
      4294967296)
     (ai .shr .u64 (ai .shl .u64 l (IntKind.u64.wrap (64 - ↑(aV y.toNat)))) 32))
    (ai .mul .u64
     (ai .quo .u64
      (ai .or .u64 (ai .shl .u64 h (IntKind.u64.wrap (64 - ↑(aV y.toNat))))
       (ai .shr .u64 l (ai .sub .u64 64 (IntKind.u64.wrap (64 - ↑(aV y.toNat))))))
      (ai .shr .u64 (ai .shl .u64 y (IntKind.u64.wrap (64 - ↑(aV y.toNat)))) 32))
     (ai .shl .u64 y (IntKind.u64.wrap (64 - ↑(aV y.toNat))))))
   (ai .shr .u64 (ai .shl .u64 y (IntKind.u64.wrap (64 - ↑(aV y.toNat)))) 32))
  (ai .and .u64 (ai .shl .u64 y (IntKind.u64.wrap (64 - ↑(aV y.toNat)))) 4294967295))
 (ai .add .u64
  (ai .mul .u64 4294967296
   (ai .sub .u64
    (ai .sub .u64
     (ai .add .u64
      (ai .mul .u64
       (ai .or .u64 (ai .shl .u64 h (IntKind.u64.wrap (64 - ↑(aV y.toNat))))
        (ai .shr .u64 l (ai .sub .u64 64 (IntKind.u64.wrap (64 - ↑(aV y.toNat))))))
       4294967296)
      (ai .shr .u64 (ai .shl .u64 l (IntKind.u64.wrap (64 - ↑(aV y.toNat)))) 32))
     (ai .mul .u64
      (ai .quo .u64
       (ai .or .u64 (ai .shl .u64 h (IntKind.u64.wrap (64 - ↑(aV y.toNat))))
        (ai .shr .u64 l (ai .sub .u64 64 (IntKind.u64.wrap (64 - ↑(aV y.toNat))))))
       (ai .shr .u64 (ai .shl .u64 y (IntKind.u64.wrap (64 - ↑(aV y.toNat)))) 32))
      (ai .shl .u64 y (IntKind.u64.wrap (64 - ↑(aV y.toNat))))))
    (ai .mul .u64
     (ai .quo .u64
      (ai .sub .u64
       (ai .add .u64
        (ai .mul .u64
         (ai .or .u64 (ai .shl .u64 h (IntKind.u64.wrap (64 - ↑(aV y.toNat))))
          (ai .shr .u64 l
           (ai .sub .u64 64 (IntKind.u64.wrap (64 - ↑(aV y.toNat))))))
         4294967296)
        (ai .shr .u64 (ai .shl .u64 l (IntKind.u64.wrap (64 - ↑(aV y.toNat)))) 32))
       (ai .mul .u64
        (ai .quo .u64
         (ai .or .u64 (ai .shl .u64 h (IntKind.u64.wrap (64 - ↑(aV y.toNat))))
          (ai .shr .u64 l
           (ai .sub .u64 64 (IntKind.u64.wrap (64 - ↑(aV y.toNat))))))
         (ai .shr .u64 (ai .shl .u64 y (IntKind.u64.wrap (64 - ↑(aV y.toNat))))
          32))
        (ai .shl .u64 y (IntKind.u64.wrap (64 - ↑(aV y.toNat))))))
      (ai .shr .u64 (ai .shl .u64 y (IntKind.u64.wrap (64 - ↑(aV y.toNat)))) 32))
     (ai .shr .u64 (ai .shl .u64 y (IntKind.u64.wrap (64 - ↑(aV y.toNat)))) 32))))
  (ai .and .u64 (ai .shl .u64 l (IntKind.u64.wrap (64 - ↑(aV y.toNat)))) 4294967295)))=false)
 (h0:((decide (0≤IntKind.u64.wrap (64 - ↑(aV y.toNat)))=true)∧(decide (ai .shr .u64 (ai .shl .u64 y (IntKind.u64.wrap (64 - ↑(aV y.toNat)))) 32=0) =
 false)∧(decide (ai .shr .u64 (ai .shl .u64 y (IntKind.u64.wrap (64 - ↑(aV y.toNat)))) 32=0) =
 false)∧(decide (0≤IntKind.u64.wrap (64 - ↑(aV y.toNat)))=true)∧(decide (0≤ai .sub .u64 64 (IntKind.u64.wrap (64 - ↑(aV y.toNat))))=true)∧(decide (0≤IntKind.u64.wrap (64 - ↑(aV y.toNat)))=true)∧(decide (0≤IntKind.u64.wrap (64 - ↑(aV y.toNat)))=true)∧(0≤y)∧(y<18446744073709551616)∧True)∧res=D.aS
 [D.v
   (Value.int .u64
    (ai .add .u64
     (ai .mul .u64
      (ai .quo .u64
       (ai .or .u64 (ai .shl .u64 h (IntKind.u64.wrap (64 - ↑(aV y.toNat))))
        (ai .shr .u64 l (ai .sub .u64 64 (IntKind.u64.wrap (64 - ↑(aV y.toNat))))))
       (ai .shr .u64 (ai .shl .u64 y (IntKind.u64.wrap (64 - ↑(aV y.toNat)))) 32))
      4294967296)
     (ai .quo .u64
      (ai .sub .u64
       (ai .add .u64
        (ai .mul .u64
         (ai .or .u64 (ai .shl .u64 h (IntKind.u64.wrap (64 - ↑(aV y.toNat))))
          (ai .shr .u64 l
           (ai .sub .u64 64 (IntKind.u64.wrap (64 - ↑(aV y.toNat))))))
         4294967296)
        (ai .shr .u64 (ai .shl .u64 l (IntKind.u64.wrap (64 - ↑(aV y.toNat)))) 32))
       (ai .mul .u64
        (ai .quo .u64
         (ai .or .u64 (ai .shl .u64 h (IntKind.u64.wrap (64 - ↑(aV y.toNat))))
          (ai .shr .u64 l
           (ai .sub .u64 64 (IntKind.u64.wrap (64 - ↑(aV y.toNat))))))
         (ai .shr .u64 (ai .shl .u64 y (IntKind.u64.wrap (64 - ↑(aV y.toNat))))
          32))
        (ai .shl .u64 y (IntKind.u64.wrap (64 - ↑(aV y.toNat))))))
      (ai .shr .u64 (ai .shl .u64 y (IntKind.u64.wrap (64 - ↑(aV y.toNat)))) 32)))),
  D.v
   (Value.int .u64
    (ai .shr .u64
     (ai .sub .u64
      (ai .add .u64
       (ai .mul .u64
        (ai .sub .u64
         (ai .add .u64
          (ai .mul .u64
           (ai .or .u64 (ai .shl .u64 h (IntKind.u64.wrap (64 - ↑(aV y.toNat))))
            (ai .shr .u64 l
             (ai .sub .u64 64 (IntKind.u64.wrap (64 - ↑(aV y.toNat))))))
           4294967296)
          (ai .shr .u64 (ai .shl .u64 l (IntKind.u64.wrap (64 - ↑(aV y.toNat))))
           32))
         (ai .mul .u64
          (ai .quo .u64
           (ai .or .u64 (ai .shl .u64 h (IntKind.u64.wrap (64 - ↑(aV y.toNat))))
            (ai .shr .u64 l
             (ai .sub .u64 64 (IntKind.u64.wrap (64 - ↑(aV y.toNat))))))
           (ai .shr .u64 (ai .shl .u64 y (IntKind.u64.wrap (64 - ↑(aV y.toNat))))
            32))
          (ai .shl .u64 y (IntKind.u64.wrap (64 - ↑(aV y.toNat))))))
        4294967296)
       (ai .and .u64 (ai .shl .u64 l (IntKind.u64.wrap (64 - ↑(aV y.toNat))))
        4294967295))
      (ai .mul .u64
       (ai .quo .u64
        (ai .sub .u64
         (ai .add .u64
          (ai .mul .u64
           (ai .or .u64 (ai .shl .u64 h (IntKind.u64.wrap (64 - ↑(aV y.toNat))))
            (ai .shr .u64 l
             (ai .sub .u64 64 (IntKind.u64.wrap (64 - ↑(aV y.toNat))))))
           4294967296)
          (ai .shr .u64 (ai .shl .u64 l (IntKind.u64.wrap (64 - ↑(aV y.toNat))))
           32))
         (ai .mul .u64
          (ai .quo .u64
           (ai .or .u64 (ai .shl .u64 h (IntKind.u64.wrap (64 - ↑(aV y.toNat))))
            (ai .shr .u64 l
             (ai .sub .u64 64 (IntKind.u64.wrap (64 - ↑(aV y.toNat))))))
           (ai .shr .u64 (ai .shl .u64 y (IntKind.u64.wrap (64 - ↑(aV y.toNat))))
            32))
          (ai .shl .u64 y (IntKind.u64.wrap (64 - ↑(aV y.toNat))))))
        (ai .shr .u64 (ai .shl .u64 y (IntKind.u64.wrap (64 - ↑(aV y.toNat)))) 32))
       (ai .shl .u64 y (IntKind.u64.wrap (64 - ↑(aV y.toNat))))))
     (IntKind.u64.wrap (64 - ↑(aV y.toNat)))))]):
 Kl 160 [D.v (Value.int .u64 h),D.v (Value.int .u64 l),D.v (Value.int .u64 y)] res:=by
 exact aT (hX2) (abD h l y) ⟨(h0).1.1,e6,e5,(h0).1.2.1,e4,e3,(h0).1.2.2.1,rfl,(h0).1.2.2.2.1,(h0).1.2.2.2.2.1,(h0).1.2.2.2.2.2.1,rfl,(h0).1.2.2.2.2.2.2.1,(h0).1.2.2.2.2.2.2.2.1,(h0).1.2.2.2.2.2.2.2.2.1,e2,e1,e0,trivial⟩ (h0).2
theorem aaV (l y:Nat) (hy:0<y) (hl:l<18446744073709551616):Kl 160 [u64 0,u64 l,u64 y] (.aS [u64 ((l / y:Nat):Int),u64 ((l%y:Nat):Int)]):=by
 refine Qo 0 l y _ ?_ ?_ ?_ ⟨⟨?_,?_,trivial⟩,?_⟩
 ·rw[bV];omega
 ·rw[SG];omega
 ·rw[bY]
 ·rw[decide_eq_false_iff_not];omega
 ·rw[decide_eq_false_iff_not];omega
 ·have:=Nat.div_le_self l y
  rw[G7 _ _ (by omega),Gj _ (by omega)];push_cast;rfl
set_option maxHeartbeats 4000000 in
theorem ZG (h l y:Nat) (hy:y<4294967296) (hh:h<y) (h0:0<h) (hl:l<18446744073709551616):Kl 160 [u64 h,u64 l,u64 y] (.aS [u64 (((h*18446744073709551616+l) / y:Nat):Int),u64 (((h*18446744073709551616+l)%y:Nat):Int)]):=by
 obtain⟨b1,b2,b3⟩:=Ud y (by omega)
 have b4:=Gv y 32 hy
 generalize hL:aV y=L at *
 have hpr:2 ^ (64 - L)*2 ^ L=18446744073709551616:=by rw[←Nat.pow_add,show 64 - L+L=64 by omega]
 have hp:2 ^ (64 - L)=4294967296*2 ^ (32 - L):=by rw[show 64 - L=32+(32 - L) by omega,Nat.pow_add]
 have hp0:0<2 ^ (32 - L):=Nat.two_pow_pos _
 obtain⟨hU,hq1,hq0,hT,hW,r1,r2⟩:=adF y h l _ _ _ hpr hp (by omega) hh hl hp0
 have hyV:y*2 ^ (64 - L)=y*2 ^ (32 - L)*4294967296:=by rw[hp,Nat.mul_assoc,Nat.mul_comm 4294967296]
 have hVlt:y*2 ^ (64 - L)<18446744073709551616:=by
  rw[←hpr,Nat.mul_comm];exact Nat.mul_lt_mul_of_pos_left b2 (Nat.two_pow_pos _)
 have hhp:h*2 ^ (64 - L)+l / 2 ^ L<18446744073709551616:=Nat.lt_trans hU (hyV▸hVlt)
 have hlr:l / 2 ^ L<2 ^ (64 - L):=by rw[Nat.div_lt_iff_lt_mul (Nat.two_pow_pos _),hpr];exact hl
 have sE:IntKind.wrap .u64 (64 - ((aV ((y:Int).toNat):Nat):Int))=((64 - L:Nat):Int):=by
  rw[Int.toNat_natCast,hL,wrap_u64];omega
 have eh:ai .shl .u64 (h:Int) ((64 - L:Nat):Int)=((h*2 ^ (64 - L):Nat):Int):=Ua _ _ (by omega) (Nat.lt_of_le_of_lt (Nat.le_add_right _ _) hhp)
 have ey:ai .shl .u64 (y:Int) ((64 - L:Nat):Int)=((y*2 ^ (32 - L)*4294967296:Nat):Int):=by rw[←hyV];exact Ua _ _ (by omega) hVlt
 have el:ai .shl .u64 (l:Int) ((64 - L:Nat):Int)=((l%2 ^ L*2 ^ (64 - L):Nat):Int):=aeW _ _ _ (by omega)
 have es:ai .sub .u64 64 ((64 - L:Nat):Int)=(L:Int):=by rw[dG,wrap_u64];omega
 have er:ai .shr .u64 (l:Int) (L:Int)=((l / 2 ^ L:Nat):Int):=RJ _ _ (by omega)
 have eo:=afr h (2 ^ (64 - L)) (l / 2 ^ L) (64 - L) rfl hlr hhp
 obtain⟨U,hUe⟩:∃ U,h*2 ^ (64 - L)+l / 2 ^ L=U:=⟨_,rfl⟩
 rw[hUe] at hU hq1 hq0 hT r1 r2 eo
 obtain⟨W,hWe⟩:∃ W,l%2 ^ L*2 ^ (64 - L)=W:=⟨_,rfl⟩
 rw[hWe] at hq0 hT hW r1 r2 el
 have hVpos:0<y*2 ^ (32 - L):=Nat.mul_pos (by omega) hp0
 rw[hyV] at hVlt
 obtain⟨V,hVe⟩:∃ V,y*2 ^ (32 - L)=V:=⟨_,rfl⟩
 rw[hVe] at hU hq1 hq0 hT r1 r2 ey hVpos hVlt
 have en:ai .shr .u64 ((V*4294967296:Nat):Int) 32=(V:Int):=by rw[EC];omega
 have eq1:ai .quo .u64 (U:Int) (V:Int)=((U / V:Nat):Int):=G7 _ _ (Nat.lt_trans hq1 (by decide))
 have ew:ai .shr .u64 (W:Int) 32=((W / 4294967296:Nat):Int):=by rw[EC];omega
 have em:ai .and .u64 (W:Int) 4294967295=((W%4294967296:Nat):Int):=aff W hW
 have et:=RY U V (W / 4294967296) (Nat.lt_trans hT hVlt)
 have ez:ai .and .u64 ((V*4294967296:Nat):Int) 4294967295=0:=by rw[aff _ hVlt,Nat.mul_mod_left];rfl
 obtain⟨T,hTe⟩:∃ T,U%V*4294967296+W / 4294967296=T:=⟨_,rfl⟩
 rw[hTe] at hq0 hT r1 r2 et
 have eq0:ai .quo .u64 (T:Int) (V:Int)=((T / V:Nat):Int):=G7 _ _ (Nat.lt_trans hq0 (by decide))
 have hTV:T%V<V:=Nat.mod_lt _ hVpos
 have hWm:W%4294967296<4294967296:=Nat.mod_lt _ (by decide)
 have eR:=RY T V (W%4294967296) (Nat.lt_trans (VA _ _ _ hTV hWm) hVlt)
 have ef:ai .add .u64 (ai .mul .u64 ((U / V:Nat):Int) 4294967296) ((T / V:Nat):Int)=((U / V*4294967296+T / V:Nat):Int):=by
  simp only[dH,mO,wrap_u64]
  clear r1 r2 eq1 eq0 et eR
  revert hq1 hq0
  generalize U / V=m
  generalize T / V=n
  intros
  omega
 have eg:ai .shr .u64 ((T%V*4294967296+W%4294967296:Nat):Int) ((64 - L:Nat):Int)=(((T%V*4294967296+W%4294967296) / 2 ^ (64 - L):Nat):Int):=RJ _ _ (by omega)
 rw[r1] at ef
 rw[r2] at eg
 have mz:∀ a:Nat,ai .mul .u64 (a:Int) 0=0:=fun a=>by rw[mO,Int.mul_zero];rfl
 refine OE h l y _ ?_ ?_ ?_ ?_ ?_ ?_ ?_ ?_
 ·rw[bV];omega
 ·rw[SG];omega
 ·rw[bV];omega
 all_goals simp only[sE,eh,ey,el,es,er,eo,en,eq1,ew,em,et,ez,eq0,eR,ef,eg,mz,dS,iD,decide_eq_true_eq,decide_eq_false_iff_not]
 ·exact Int.ofNat_lt.2 hq1
 ·rw[dH,wrap_u64];exact Int.emod_nonneg _ (by decide)
 ·exact Int.ofNat_lt.2 hq0
 ·rw[dH,wrap_u64];exact Int.emod_nonneg _ (by decide)
 ·have hv:((V:Nat):Int)≠0:=Int.ofNat_ne_zero.2 (Nat.ne_of_gt hVpos)
  exact⟨⟨Int.natCast_nonneg _,hv,hv,Int.natCast_nonneg _,Int.natCast_nonneg _,Int.natCast_nonneg _,Int.natCast_nonneg _,Int.natCast_nonneg _,Int.ofNat_lt.2 (Nat.lt_trans hy (by decide)),trivial⟩,trivial⟩
theorem afe (h l y:Int) (h0:0≤h) (hh:h<y) (hy:y<4294967296) (l0:0≤l) (l1:l<18446744073709551616):
  Kl 160 [u64 h,u64 l,u64 y] (.aS [u64 ((h*18446744073709551616+l) / y),u64 ((h*18446744073709551616+l)%y)]):=by
 obtain⟨h,rfl⟩:=Int.eq_ofNat_of_zero_le h0
 obtain⟨l,rfl⟩:=Int.eq_ofNat_of_zero_le l0
 obtain⟨y,rfl⟩:=Int.eq_ofNat_of_zero_le (show 0≤y by omega)
 have e:((h:Int)*18446744073709551616+l)=((h*18446744073709551616+l:Nat):Int):=by omega
 rw[e]
 rcases Nat.eq_zero_or_pos h with rfl | hp
 ·rw[Nat.zero_mul,Nat.zero_add]
  have:=aaV l y (by omega) (by omega)
  rw[Int.natCast_ediv,Int.natCast_emod] at this
  exact this
 ·have:=ZG h l y (by omega) (by omega) hp (by omega)
  rw[Int.natCast_ediv,Int.natCast_emod] at this
  exact this
def divC:List D→Option (D×List Prop)
 |[.v (.int .u64 h), .v (.int .u64 l), .v (.int .u64 y)]=>some (.aS [u64 ((h*18446744073709551616+l) / y),u64 ((h*18446744073709551616+l)%y)],[0≤h,h<y,y<4294967296,0≤l,l<18446744073709551616])
 |_=>none
def X3:aB:=aF 160 (.call divC) X2
theorem hX3:bT Pg X3:=aj (fun args res l h hl=>by
 unfold divC at h
 split at h
 next x=>
  obtain⟨rfl,rfl⟩:=dB h
  obtain⟨h0,h1,h2,h3,h4,_⟩:=hl
  exact afe _ _ _ h0 h1 h2 h3 h4
 ·cases h) hX2
end MeterS
end
noncomputable section
namespace MeterS
open Go Go.Dam Go.Proofs
set_option maxRecDepth 1000000
variable [iG]
def alY:List D→Option (D×List Prop)
 |[.agg [.v (.int .u64 h), .v (.int .u64 l)], .agg [.v (.int .u64 d), .v (.int .u64 e)]]=>some (i64 (qF (h*18446744073709551616+l) (d*18446744073709551616+e)),[0≤l,l<18446744073709551616,0≤e,e<18446744073709551616])
 |_=>none
def adI:List D→Option (D×List Prop)
 |[.agg [.v (.int .u64 h), .v (.int .u64 l)], .agg [.v (.int .u64 d), .v (.int .u64 e)]]=>some (wd (h*18446744073709551616+l - (d*18446744073709551616+e)),[h<18446744073709551616,0≤l,l<18446744073709551616,0≤d,0≤e,e<18446744073709551616,d*18446744073709551616+e≤h*18446744073709551616+l])
 |_=>none
def aa9:List D→Option (D×List Prop)
 |[.agg [.v (.int .u64 h), .v (.int .u64 l)], .agg [.v (.int .u64 d), .v (.int .u64 e)]]=>some (.aS [wd (if h*18446744073709551616+l+(d*18446744073709551616+e)<340282366920938463463374607431768211456 then h*18446744073709551616+l+(d*18446744073709551616+e) else 0),i64 (if h*18446744073709551616+l+(d*18446744073709551616+e)<340282366920938463463374607431768211456 then 0 else 16)],[0≤h,h<18446744073709551616,0≤l,l<18446744073709551616,0≤d,d<18446744073709551616,0≤e,e<18446744073709551616])
 |_=>none
def mulC:List D→Option (D×List Prop)
 |[.v (.int .u64 x), .v (.int .u64 y)]=>some (wd (x*y),[0≤x,x<18446744073709551616,0≤y,y<18446744073709551616])
 |_=>none
def Wq:List D→Option (D×List Prop)
 |[.agg [.v (.int .i64 b), .v (.int .i64 r), .v (.int .i64 p)]]=>some (i64 (C9 b r p),[])
 |_=>none
theorem ail (args res l) (h:alY args=some (res,l)) (hl:aJ l):Kl 174 args res:=by
 unfold alY at h;split at h
 ·obtain⟨rfl,rfl⟩:=dB h;obtain⟨h0,h1,h2,h3,_⟩:=hl
  exact ai2 _ _ _ _ h0 h1 h2 h3
 ·cases h
theorem adJ (args res l) (h:adI args=some (res,l)) (hl:aJ l):Kl 179 args res:=by
 unfold adI at h;split at h
 ·obtain⟨rfl,rfl⟩:=dB h;obtain⟨h0,h1,h2,h3,h4,h5,h6,_⟩:=hl
  exact acD _ _ _ _ h0 h1 h2 h3 h4 h5 h6
 ·cases h
theorem aey (args res l) (h:aa9 args=some (res,l)) (hl:aJ l):Kl 111 args res:=by
 unfold aa9 at h;split at h
 ·obtain⟨rfl,rfl⟩:=dB h;obtain⟨h0,h1,h2,h3,h4,h5,h6,h7,_⟩:=hl
  exact aiO _ _ _ _ h0 h1 h2 h3 h4 h5 h6 h7
 ·cases h
theorem ad1 (args res l) (h:aa9 args=some (res,l)) (hl:aJ l):Kl 171 args res:=by
 unfold aa9 at h;split at h
 ·obtain⟨rfl,rfl⟩:=dB h;obtain⟨h0,h1,h2,h3,h4,h5,h6,h7,_⟩:=hl
  exact aiw _ _ _ _ h0 h1 h2 h3 h4 h5 h6 h7
 ·cases h
theorem aex (args res l) (h:mulC args=some (res,l)) (hl:aJ l):Kl 112 args res:=by
 unfold mulC at h;split at h
 ·obtain⟨rfl,rfl⟩:=dB h;obtain⟨h0,h1,h2,h3,_⟩:=hl
  exact agm _ _ h0 h1 h2 h3
 ·cases h
theorem acY (args res l) (h:mulC args=some (res,l)) (hl:aJ l):Kl 172 args res:=by
 unfold mulC at h;split at h
 ·obtain⟨rfl,rfl⟩:=dB h;obtain⟨h0,h1,h2,h3,_⟩:=hl
  exact ag6 _ _ h0 h1 h2 h3
 ·cases h
theorem aeh (args res l) (h:Wq args=some (res,l)) (hl:aJ l):Kl 69 args res:=by
 unfold Wq at h;split at h
 ·obtain⟨rfl,rfl⟩:=dB h
  exact agi _ _ _
 ·cases h
theorem aes (args res l) (h:Wq args=some (res,l)) (hl:aJ l):Kl 67 args res:=by
 unfold Wq at h;split at h
 ·obtain⟨rfl,rfl⟩:=dB h
  exact ah0 _ _ _
 ·cases h
def X4:aB:=aF 174 (.call alY) (aF 179 (.call adI) (aF 111 (.call aa9) (aF 171 (.call aa9) (aF 112 (.call mulC) (aF 172 (.call mulC) (aF 69 (.call Wq) (aF 67 (.call Wq) X3)))))))
theorem VZ:bT Pg X4:=aj ail (aj adJ (aj aey (aj ad1 (aj aex (aj acY (aj aeh (aj aes hX3)))))))
end MeterS
end
noncomputable section
namespace MeterS
open Go Go.Dam Go.Proofs
set_option maxRecDepth 1000000
theorem WN (A A' d g:Int) (hd:0<d) (hA:A=2*A'+g) (hA':0≤A') (g0:0≤g) (g1:g≤1):
  (d≤A'%d*2+g→A / d=2*(A' / d)+1∧A%d=A'%d*2+g - d)∧(A'%d*2+g<d→A / d=2*(A' / d)∧A%d=A'%d*2+g):=by
 have h1:=Int.mul_ediv_add_emod A' d
 have h2:=Int.emod_nonneg A' (show d≠0 by omega)
 have h3:=Int.emod_lt_of_pos A' hd
 generalize A' / d=q at *
 generalize A'%d=r at *
 have key:∀ x y:Int,A=d*x+y→0≤y→y<d→A / d=x∧A%d=y:=fun x y e y0 y1=>by
  rw[e,Int.add_comm]
  exact⟨by rw[Int.add_mul_ediv_left _ _ (by omega),Int.ediv_eq_zero_of_lt y0 y1];omega,by rw[Int.add_mul_emod_self_left,Int.emod_eq_of_lt y0 y1]⟩
 constructor
 ·intro h
  refine key (2*q+1) (r*2+g - d) ?_ (by omega) (by omega)
  rw[Int.mul_add,Int.mul_one,Int.mul_left_comm];omega
 ·intro h
  refine key (2*q) (r*2+g) ?_ (by omega) (by omega)
  rw[Int.mul_left_comm];omega
theorem Nj {x y:Int}:(ah .geq (qF x y) 0=true)↔y≤x:=by
 rw[dV];unfold qF;split
 ·omega
 ·split<;>omega
theorem NZ {x y:Int}:(ah .geq (qF x y) 0=false)↔x<y:=by
 rw[dS];unfold qF;split
 ·omega
 ·split<;>omega
theorem and1 {x:Int} (h0:0≤x) (h1:x<18446744073709551616):ai .and .u64 x 1=x%2:=pJ 1 (by decide) h0 h1
theorem ajH (x:Int):ai .shr .u64 x 63=x / 9223372036854775808:=by
 rw[CO (by decide) (by decide)];rfl
variable [iG]
def eG (d i h l qh ql rh rl:Int):Cs:=⟨TT.of [(1,(D.v (Value.int .u64 d))),(2,(D.ptr 64 0)),(4,(D.ptr 128 0)),(5,(D.v (Value.int .u64 0))),(6,(D.v (Value.int .i64 0))),(7,(D.ptr 224 0)),(8,(D.ptr 256 0)),(9,(D.v (Value.int .i64 i)))],71,[],[(64,(BX.cells [(D.v (Value.int .u64 h)),(D.v (Value.int .u64 l))] false)),(128,(BX.cells [(D.v (Value.int .u64 0)),(D.v (Value.int .u64 0))] false)),(224,(BX.cells [(D.v (Value.int .u64 qh)),(D.v (Value.int .u64 ql))] false)),(256,(BX.cells [(D.v (Value.int .u64 rh)),(D.v (Value.int .u64 rl))] false))],none,0⟩
theorem V9 (d i h l qh ql rh rl:Int):gY Pg (X4) 100000 (dh Pg 173 0) [.d true, .d true, .d true] [[1,2,4,5,6,7,8,9]] [(64,64),(128,128),(224,224),(256,256)] (eG d i h l qh ql rh rl)=some (Ex.normal,(eG (d) (ai .sub .i64 i 1) (h) (l) (ai .add .u64 (ai .mul .u64 qh 2) (ai .shr .u64 ql 63)) (ai .add .u64 (ai .mul .u64 ql 2) 1) ((ai .add .u64 (ai .mul .u64 rh 2) (ai .shr .u64 rl 63)*18446744073709551616 +
   ai .add .u64 (ai .mul .u64 rl 2)
    (ai .and .u64 (ai .shr .u64 h (ai .sub .i64 i 64)) 1) -
  (0+d)) /
 18446744073709551616) ((ai .add .u64 (ai .mul .u64 rh 2) (ai .shr .u64 rl 63)*18446744073709551616 +
   ai .add .u64 (ai .mul .u64 rl 2)
    (ai .and .u64 (ai .shr .u64 h (ai .sub .i64 i 64)) 1) -
  (0+d)) %
 18446744073709551616)),[ai .add .u64 (ai .mul .u64 rh 2) (ai .shr .u64 rl 63)<18446744073709551616,
 0≤
 ai .add .u64 (ai .mul .u64 rl 2)
  (ai .and .u64 (ai .shr .u64 h (ai .sub .i64 i 64)) 1),
 ai .add .u64 (ai .mul .u64 rl 2)
  (ai .and .u64 (ai .shr .u64 h (ai .sub .i64 i 64)) 1) <
 18446744073709551616,
 (0:Int)≤(0:Int),
 0≤d,
 d<18446744073709551616,
 0+d≤
 ai .add .u64 (ai .mul .u64 rh 2) (ai .shr .u64 rl 63)*18446744073709551616 +
  ai .add .u64 (ai .mul .u64 rl 2)
   (ai .and .u64 (ai .shr .u64 h (ai .sub .i64 i 64)) 1),
 ah .geq
  (qF
   (ai .add .u64 (ai .mul .u64 rh 2) (ai .shr .u64 rl 63) *
     18446744073709551616 +
    ai .add .u64 (ai .mul .u64 rl 2)
     (ai .and .u64 (ai .shr .u64 h (ai .sub .i64 i 64)) 1))
   (0+d))
  0 =
 true,
 0≤
 ai .add .u64 (ai .mul .u64 rl 2)
  (ai .and .u64 (ai .shr .u64 h (ai .sub .i64 i 64)) 1),
 ai .add .u64 (ai .mul .u64 rl 2)
  (ai .and .u64 (ai .shr .u64 h (ai .sub .i64 i 64)) 1) <
 18446744073709551616,
 0≤d,
 d<18446744073709551616,
 true=true,
 true=true,
 decide (0≤ai .sub .i64 i 64)=true,
 ah .gtr i 63=true,
 decide (0≤i)=true,
 ah .geq i 0=true]):=by kernel_rfl
theorem XZ (d i h l qh ql rh rl:Int):gY Pg (X4) 100000 (dh Pg 173 0) [.d true, .d true, .d false] [[1,2,4,5,6,7,8,9]] [(64,64),(128,128),(224,224),(256,256)] (eG d i h l qh ql rh rl)=some (Ex.normal,(eG (d) (ai .sub .i64 i 1) (h) (l) (ai .add .u64 (ai .mul .u64 qh 2) (ai .shr .u64 ql 63)) (ai .mul .u64 ql 2) (ai .add .u64 (ai .mul .u64 rh 2) (ai .shr .u64 rl 63)) (ai .add .u64 (ai .mul .u64 rl 2)
 (ai .and .u64 (ai .shr .u64 h (ai .sub .i64 i 64)) 1))),[ah .geq
  (qF
   (ai .add .u64 (ai .mul .u64 rh 2) (ai .shr .u64 rl 63) *
     18446744073709551616 +
    ai .add .u64 (ai .mul .u64 rl 2)
     (ai .and .u64 (ai .shr .u64 h (ai .sub .i64 i 64)) 1))
   (0+d))
  0 =
 false,
 0≤
 ai .add .u64 (ai .mul .u64 rl 2)
  (ai .and .u64 (ai .shr .u64 h (ai .sub .i64 i 64)) 1),
 ai .add .u64 (ai .mul .u64 rl 2)
  (ai .and .u64 (ai .shr .u64 h (ai .sub .i64 i 64)) 1) <
 18446744073709551616,
 0≤d,
 d<18446744073709551616,
 true=true,
 true=true,
 decide (0≤ai .sub .i64 i 64)=true,
 ah .gtr i 63=true,
 decide (0≤i)=true,
 ah .geq i 0=true]):=by kernel_rfl
theorem Wp (d i h l qh ql rh rl:Int):gY Pg (X4) 100000 (dh Pg 173 0) [.d true, .d false, .d true] [[1,2,4,5,6,7,8,9]] [(64,64),(128,128),(224,224),(256,256)] (eG d i h l qh ql rh rl)=some (Ex.normal,(eG (d) (ai .sub .i64 i 1) (h) (l) (ai .add .u64 (ai .mul .u64 qh 2) (ai .shr .u64 ql 63)) (ai .add .u64 (ai .mul .u64 ql 2) 1) ((ai .add .u64 (ai .mul .u64 rh 2) (ai .shr .u64 rl 63)*18446744073709551616 +
   ai .add .u64 (ai .mul .u64 rl 2)
    (ai .and .u64 (ai .shr .u64 l i) 1) -
  (0+d)) /
 18446744073709551616) ((ai .add .u64 (ai .mul .u64 rh 2) (ai .shr .u64 rl 63)*18446744073709551616 +
   ai .add .u64 (ai .mul .u64 rl 2)
    (ai .and .u64 (ai .shr .u64 l i) 1) -
  (0+d)) %
 18446744073709551616)),[ai .add .u64 (ai .mul .u64 rh 2) (ai .shr .u64 rl 63)<18446744073709551616,
 0≤
 ai .add .u64 (ai .mul .u64 rl 2)
  (ai .and .u64 (ai .shr .u64 l i) 1),
 ai .add .u64 (ai .mul .u64 rl 2)
  (ai .and .u64 (ai .shr .u64 l i) 1) <
 18446744073709551616,
 (0:Int)≤(0:Int),
 0≤d,
 d<18446744073709551616,
 0+d≤
 ai .add .u64 (ai .mul .u64 rh 2) (ai .shr .u64 rl 63)*18446744073709551616 +
  ai .add .u64 (ai .mul .u64 rl 2)
   (ai .and .u64 (ai .shr .u64 l i) 1),
 ah .geq
  (qF
   (ai .add .u64 (ai .mul .u64 rh 2) (ai .shr .u64 rl 63) *
     18446744073709551616 +
    ai .add .u64 (ai .mul .u64 rl 2)
     (ai .and .u64 (ai .shr .u64 l i) 1))
   (0+d))
  0 =
 true,
 0≤
 ai .add .u64 (ai .mul .u64 rl 2)
  (ai .and .u64 (ai .shr .u64 l i) 1),
 ai .add .u64 (ai .mul .u64 rl 2)
  (ai .and .u64 (ai .shr .u64 l i) 1) <
 18446744073709551616,
 0≤d,
 d<18446744073709551616,
 true=true,
 true=true,
 ah .gtr i 63=false,
 decide (0≤i)=true,
 ah .geq i 0=true]):=by kernel_rfl
theorem XD (d i h l qh ql rh rl:Int):gY Pg (X4) 100000 (dh Pg 173 0) [.d true, .d false, .d false] [[1,2,4,5,6,7,8,9]] [(64,64),(128,128),(224,224),(256,256)] (eG d i h l qh ql rh rl)=some (Ex.normal,(eG (d) (ai .sub .i64 i 1) (h) (l) (ai .add .u64 (ai .mul .u64 qh 2) (ai .shr .u64 ql 63)) (ai .mul .u64 ql 2) (ai .add .u64 (ai .mul .u64 rh 2) (ai .shr .u64 rl 63)) (ai .add .u64 (ai .mul .u64 rl 2) (ai .and .u64 (ai .shr .u64 l i) 1))),[ah .geq
  (qF
   (ai .add .u64 (ai .mul .u64 rh 2) (ai .shr .u64 rl 63) *
     18446744073709551616 +
    ai .add .u64 (ai .mul .u64 rl 2)
     (ai .and .u64 (ai .shr .u64 l i) 1))
   (0+d))
  0 =
 false,
 0≤
 ai .add .u64 (ai .mul .u64 rl 2)
  (ai .and .u64 (ai .shr .u64 l i) 1),
 ai .add .u64 (ai .mul .u64 rl 2)
  (ai .and .u64 (ai .shr .u64 l i) 1) <
 18446744073709551616,
 0≤d,
 d<18446744073709551616,
 true=true,
 true=true,
 ah .gtr i 63=false,
 decide (0≤i)=true,
 ah .geq i 0=true]):=by kernel_rfl
theorem WU (d i h l qh ql rh rl:Int):gY Pg (X4) 100000 (dh Pg 173 0) [.d false] [[1,2,4,5,6,7,8,9]] [(64,64),(128,128),(224,224),(256,256)] (eG d i h l qh ql rh rl)=some (Ex.exit 0,(eG (d) (i) (h) (l) (qh) (ql) (rh) (rl)),[ah .geq i 0=false]):=by kernel_rfl
theorem Cj (d i h l qh ql rh rl:Int) (σ:St) (e:Ex)
 (h0:((ah .geq i 0)=true)→((ah .gtr i 63)=true)→((ah .geq
 (qF
  (ai .add .u64 (ai .mul .u64 rh 2) (ai .shr .u64 rl 63) *
    18446744073709551616 +
   ai .add .u64 (ai .mul .u64 rl 2)
    (ai .and .u64 (ai .shr .u64 h (ai .sub .i64 i 64)) 1))
  (0+d))
 0)=true)→((ai .add .u64 (ai .mul .u64 rh 2) (ai .shr .u64 rl 63)<18446744073709551616)∧(0≤
 ai .add .u64 (ai .mul .u64 rl 2)
  (ai .and .u64 (ai .shr .u64 h (ai .sub .i64 i 64)) 1))∧(ai .add .u64 (ai .mul .u64 rl 2)
  (ai .and .u64 (ai .shr .u64 h (ai .sub .i64 i 64)) 1) <
 18446744073709551616)∧((0:Int)≤(0:Int))∧(0≤d)∧(d<18446744073709551616)∧(0+d≤
 ai .add .u64 (ai .mul .u64 rh 2) (ai .shr .u64 rl 63)*18446744073709551616 +
  ai .add .u64 (ai .mul .u64 rl 2)
   (ai .and .u64 (ai .shr .u64 h (ai .sub .i64 i 64)) 1))∧(0≤
 ai .add .u64 (ai .mul .u64 rl 2)
  (ai .and .u64 (ai .shr .u64 h (ai .sub .i64 i 64)) 1))∧(ai .add .u64 (ai .mul .u64 rl 2)
  (ai .and .u64 (ai .shr .u64 h (ai .sub .i64 i 64)) 1) <
 18446744073709551616)∧(0≤d)∧(d<18446744073709551616)∧(decide (0≤ai .sub .i64 i 64)=true)∧(decide (0≤i)=true)∧True)∧Rn 173 0 (eG (d) (ai .sub .i64 i 1) (h) (l) (ai .add .u64 (ai .mul .u64 qh 2) (ai .shr .u64 ql 63)) (ai .add .u64 (ai .mul .u64 ql 2) 1) ((ai .add .u64 (ai .mul .u64 rh 2) (ai .shr .u64 rl 63)*18446744073709551616 +
   ai .add .u64 (ai .mul .u64 rl 2)
    (ai .and .u64 (ai .shr .u64 h (ai .sub .i64 i 64)) 1) -
  (0+d)) /
 18446744073709551616) ((ai .add .u64 (ai .mul .u64 rh 2) (ai .shr .u64 rl 63)*18446744073709551616 +
   ai .add .u64 (ai .mul .u64 rl 2)
    (ai .and .u64 (ai .shr .u64 h (ai .sub .i64 i 64)) 1) -
  (0+d)) %
 18446744073709551616)).abs e σ)
 (h1:((ah .geq i 0)=true)→((ah .gtr i 63)=true)→((ah .geq
 (qF
  (ai .add .u64 (ai .mul .u64 rh 2) (ai .shr .u64 rl 63) *
    18446744073709551616 +
   ai .add .u64 (ai .mul .u64 rl 2)
    (ai .and .u64 (ai .shr .u64 h (ai .sub .i64 i 64)) 1))
  (0+d))
 0)=false)→((0≤
 ai .add .u64 (ai .mul .u64 rl 2)
  (ai .and .u64 (ai .shr .u64 h (ai .sub .i64 i 64)) 1))∧(ai .add .u64 (ai .mul .u64 rl 2)
  (ai .and .u64 (ai .shr .u64 h (ai .sub .i64 i 64)) 1) <
 18446744073709551616)∧(0≤d)∧(d<18446744073709551616)∧(decide (0≤ai .sub .i64 i 64)=true)∧(decide (0≤i)=true)∧True)∧Rn 173 0 (eG (d) (ai .sub .i64 i 1) (h) (l) (ai .add .u64 (ai .mul .u64 qh 2) (ai .shr .u64 ql 63)) (ai .mul .u64 ql 2) (ai .add .u64 (ai .mul .u64 rh 2) (ai .shr .u64 rl 63)) (ai .add .u64 (ai .mul .u64 rl 2)
 (ai .and .u64 (ai .shr .u64 h (ai .sub .i64 i 64)) 1))).abs e σ)
 (h2:((ah .geq i 0)=true)→((ah .gtr i 63)=false)→((ah .geq
 (qF
  (ai .add .u64 (ai .mul .u64 rh 2) (ai .shr .u64 rl 63) *
    18446744073709551616 +
   ai .add .u64 (ai .mul .u64 rl 2)
    (ai .and .u64 (ai .shr .u64 l i) 1))
  (0+d))
 0)=true)→((ai .add .u64 (ai .mul .u64 rh 2) (ai .shr .u64 rl 63)<18446744073709551616)∧(0≤
 ai .add .u64 (ai .mul .u64 rl 2)
  (ai .and .u64 (ai .shr .u64 l i) 1))∧(ai .add .u64 (ai .mul .u64 rl 2)
  (ai .and .u64 (ai .shr .u64 l i) 1) <
 18446744073709551616)∧((0:Int)≤(0:Int))∧(0≤d)∧(d<18446744073709551616)∧(0+d≤
 ai .add .u64 (ai .mul .u64 rh 2) (ai .shr .u64 rl 63)*18446744073709551616 +
  ai .add .u64 (ai .mul .u64 rl 2)
   (ai .and .u64 (ai .shr .u64 l i) 1))∧(0≤
 ai .add .u64 (ai .mul .u64 rl 2)
  (ai .and .u64 (ai .shr .u64 l i) 1))∧(ai .add .u64 (ai .mul .u64 rl 2)
  (ai .and .u64 (ai .shr .u64 l i) 1) <
 18446744073709551616)∧(0≤d)∧(d<18446744073709551616)∧(decide (0≤i)=true)∧True)∧Rn 173 0 (eG (d) (ai .sub .i64 i 1) (h) (l) (ai .add .u64 (ai .mul .u64 qh 2) (ai .shr .u64 ql 63)) (ai .add .u64 (ai .mul .u64 ql 2) 1) ((ai .add .u64 (ai .mul .u64 rh 2) (ai .shr .u64 rl 63)*18446744073709551616 +
   ai .add .u64 (ai .mul .u64 rl 2)
    (ai .and .u64 (ai .shr .u64 l i) 1) -
  (0+d)) /
 18446744073709551616) ((ai .add .u64 (ai .mul .u64 rh 2) (ai .shr .u64 rl 63)*18446744073709551616 +
   ai .add .u64 (ai .mul .u64 rl 2)
    (ai .and .u64 (ai .shr .u64 l i) 1) -
  (0+d)) %
 18446744073709551616)).abs e σ)
 (h3:((ah .geq i 0)=true)→((ah .gtr i 63)=false)→((ah .geq
 (qF
  (ai .add .u64 (ai .mul .u64 rh 2) (ai .shr .u64 rl 63) *
    18446744073709551616 +
   ai .add .u64 (ai .mul .u64 rl 2)
    (ai .and .u64 (ai .shr .u64 l i) 1))
  (0+d))
 0)=false)→((0≤
 ai .add .u64 (ai .mul .u64 rl 2)
  (ai .and .u64 (ai .shr .u64 l i) 1))∧(ai .add .u64 (ai .mul .u64 rl 2)
  (ai .and .u64 (ai .shr .u64 l i) 1) <
 18446744073709551616)∧(0≤d)∧(d<18446744073709551616)∧(decide (0≤i)=true)∧True)∧Rn 173 0 (eG (d) (ai .sub .i64 i 1) (h) (l) (ai .add .u64 (ai .mul .u64 qh 2) (ai .shr .u64 ql 63)) (ai .mul .u64 ql 2) (ai .add .u64 (ai .mul .u64 rh 2) (ai .shr .u64 rl 63)) (ai .add .u64 (ai .mul .u64 rl 2) (ai .and .u64 (ai .shr .u64 l i) 1))).abs e σ)
 (h4:((ah .geq i 0)=false)→(True)∧(e=Ex.exit 0∧σ=(eG (d) (i) (h) (l) (qh) (ql) (rh) (rl)).abs)):
 Rn 173 0 (eG d i h l qh ql rh rl).abs e σ:=by
 cases e0:(ah .geq i 0) with
 |true=>
  cases e1:(ah .gtr i 63) with
  |true=>
   cases e2:(ah .geq
 (qF
  (ai .add .u64 (ai .mul .u64 rh 2) (ai .shr .u64 rl 63) *
    18446744073709551616 +
   ai .add .u64 (ai .mul .u64 rl 2)
    (ai .and .u64 (ai .shr .u64 h (ai .sub .i64 i 64)) 1))
  (0+d))
 0) with
   |true=>
    exact jB (VZ) (V9 d i h l qh ql rh rl) ⟨(h0 e0 e1 e2).1.1,(h0 e0 e1 e2).1.2.1,(h0 e0 e1 e2).1.2.2.1,(h0 e0 e1 e2).1.2.2.2.1,(h0 e0 e1 e2).1.2.2.2.2.1,(h0 e0 e1 e2).1.2.2.2.2.2.1,(h0 e0 e1 e2).1.2.2.2.2.2.2.1,e2,(h0 e0 e1 e2).1.2.2.2.2.2.2.2.1,(h0 e0 e1 e2).1.2.2.2.2.2.2.2.2.1,(h0 e0 e1 e2).1.2.2.2.2.2.2.2.2.2.1,(h0 e0 e1 e2).1.2.2.2.2.2.2.2.2.2.2.1,rfl,rfl,(h0 e0 e1 e2).1.2.2.2.2.2.2.2.2.2.2.2.1,e1,(h0 e0 e1 e2).1.2.2.2.2.2.2.2.2.2.2.2.2.1,e0,trivial⟩ (h0 e0 e1 e2).2
   |false=>
    exact jB (VZ) (XZ d i h l qh ql rh rl) ⟨e2,(h1 e0 e1 e2).1.1,(h1 e0 e1 e2).1.2.1,(h1 e0 e1 e2).1.2.2.1,(h1 e0 e1 e2).1.2.2.2.1,rfl,rfl,(h1 e0 e1 e2).1.2.2.2.2.1,e1,(h1 e0 e1 e2).1.2.2.2.2.2.1,e0,trivial⟩ (h1 e0 e1 e2).2
  |false=>
   cases e2:(ah .geq
 (qF
  (ai .add .u64 (ai .mul .u64 rh 2) (ai .shr .u64 rl 63) *
    18446744073709551616 +
   ai .add .u64 (ai .mul .u64 rl 2)
    (ai .and .u64 (ai .shr .u64 l i) 1))
  (0+d))
 0) with
   |true=>
    exact jB (VZ) (Wp d i h l qh ql rh rl) ⟨(h2 e0 e1 e2).1.1,(h2 e0 e1 e2).1.2.1,(h2 e0 e1 e2).1.2.2.1,(h2 e0 e1 e2).1.2.2.2.1,(h2 e0 e1 e2).1.2.2.2.2.1,(h2 e0 e1 e2).1.2.2.2.2.2.1,(h2 e0 e1 e2).1.2.2.2.2.2.2.1,e2,(h2 e0 e1 e2).1.2.2.2.2.2.2.2.1,(h2 e0 e1 e2).1.2.2.2.2.2.2.2.2.1,(h2 e0 e1 e2).1.2.2.2.2.2.2.2.2.2.1,(h2 e0 e1 e2).1.2.2.2.2.2.2.2.2.2.2.1,rfl,rfl,e1,(h2 e0 e1 e2).1.2.2.2.2.2.2.2.2.2.2.2.1,e0,trivial⟩ (h2 e0 e1 e2).2
   |false=>
    exact jB (VZ) (XD d i h l qh ql rh rl) ⟨e2,(h3 e0 e1 e2).1.1,(h3 e0 e1 e2).1.2.1,(h3 e0 e1 e2).1.2.2.1,(h3 e0 e1 e2).1.2.2.2.1,rfl,rfl,e1,(h3 e0 e1 e2).1.2.2.2.2.1,e0,trivial⟩ (h3 e0 e1 e2).2
 |false=>
  exact jH (VZ) (WU d i h l qh ql rh rl) ⟨e0,trivial⟩ (by simp) (h4 e0).2
theorem afz (h l:Int) (m:Nat) (l0:0≤l) (l1:l<18446744073709551616):h / 2 ^ m=(h*18446744073709551616+l) / 2 ^ (64+m):=by
 rw[Int.pow_add,←Int.ediv_ediv_of_nonneg (Int.le_of_lt (Int.pow_pos (by decide))),show(2:Int) ^ 64=18446744073709551616 from rfl]
 rw[show(h*18446744073709551616+l) / 18446744073709551616=h by omega]
theorem afF (h l:Int) (m:Nat) (hm:m<64):l / 2 ^ m%2=(h*18446744073709551616+l) / 2 ^ m%2:=by
 have e:(18446744073709551616:Int)=2 ^ m*(2*2 ^ (63 - m)):=by
  rw[←Int.pow_succ',←Int.pow_add,show m+(63 - m).succ=64 by omega];rfl
 have hp:(0:Int)<2 ^ m:=Int.pow_pos (by decide)
 rw[e,Int.mul_left_comm,Int.add_comm,Int.add_mul_ediv_left _ _ (by omega),Int.mul_left_comm,Int.add_mul_emod_self_left]
theorem Vf (d h l:Int) (hd:0<d) (hd1:d<4294967296) (h0:0≤h) (h1:h<18446744073709551616) (l0:0≤l) (l1:l<18446744073709551616):∀ (n:Nat),n≤128→
  Rn 173 0 (eG d ((n:Int) - 1) h l ((h*18446744073709551616+l) / 2 ^ n / d / 18446744073709551616) ((h*18446744073709551616+l) / 2 ^ n / d%18446744073709551616) 0 ((h*18446744073709551616+l) / 2 ^ n%d)).abs (.exit 0)
   (eG d (-1) h l ((h*18446744073709551616+l) / d / 18446744073709551616) ((h*18446744073709551616+l) / d%18446744073709551616) 0 ((h*18446744073709551616+l)%d)).abs:=by
 intro n
 induction n with
 |zero=>
  intro _
  rw[Int.pow_zero,Int.ediv_one]
  refine Cj _ _ _ _ _ _ _ _ _ _ ?_ ?_ ?_ ?_ ?_
  ·intro a;simp only[dV] at a;omega
  ·intro a;simp only[dV] at a;omega
  ·intro a;simp only[dV] at a;omega
  ·intro a;simp only[dV] at a;omega
  ·intro a;exact⟨trivial,rfl,rfl⟩
 |succ m ih=>
  intro hm
  have ih:=ih (by omega)
  have hp:(0:Int)<2 ^ m:=Int.pow_pos (by decide)
  have eA:(h*18446744073709551616+l) / 2 ^ (m+1)=(h*18446744073709551616+l) / 2 ^ m / 2:=by
   rw[Int.pow_succ,Int.ediv_ediv_of_nonneg (by omega)]
  have hA0:0≤(h*18446744073709551616+l) / 2 ^ m:=Int.ediv_nonneg (by omega) (by omega)
  have hA1:(h*18446744073709551616+l) / 2 ^ m<340282366920938463463374607431768211456:=Int.lt_of_le_of_lt (Int.ediv_le_self _ (by omega)) (by omega)
  have gh:(63:Int)<m→ai .and .u64 (ai .shr .u64 h ((m:Int) - 64)) 1=(h*18446744073709551616+l) / 2 ^ m%2:=fun hm'=>by
   rw[show((m:Int) - 64)=((m - 64:Nat):Int) by omega,afC _ _ (by omega)]
   have hq:h / 2 ^ (m - 64)≤h:=Int.ediv_le_self _ h0
   rw[and1 (Int.ediv_nonneg h0 (Int.le_of_lt (Int.pow_pos (by decide)))) (by omega),afz h l (m - 64) l0 l1,show 64+(m - 64)=m by omega]
  have gl:(m:Int)≤63→ai .and .u64 (ai .shr .u64 l m) 1=(h*18446744073709551616+l) / 2 ^ m%2:=fun hm'=>by
   rw[afC _ _ (by omega)]
   have hq:l / 2 ^ m≤l:=Int.ediv_le_self _ l0
   rw[and1 (Int.ediv_nonneg l0 (Int.le_of_lt (Int.pow_pos (by decide)))) (by omega),afF h l m (by omega)]
  rw[eA]
  generalize (h*18446744073709551616+l) / 2 ^ m=A at *
  obtain⟨s1,s2⟩:=WN A (A / 2) d (A%2) hd (by omega) (by omega) (by omega) (by omega)
  have r0:=Int.emod_nonneg (A / 2) (show d≠0 by omega)
  have r1:=Int.emod_lt_of_pos (A / 2) hd
  have q0:0≤A / 2 / d:=Int.ediv_nonneg (by omega) (by omega)
  have q1:A / 2 / d≤A / 2:=Int.ediv_le_self _ (by omega)
  generalize A / 2 / d=q at *
  generalize A / 2%d=r at *
  have ei:(((m+1:Nat):Int) - 1)=m:=by omega
  rw[ei]
  have e1:ai .sub .i64 (m:Int) 1=m - 1:=by rw[dG,aY (by omega) (by omega)]
  have e2:ai .add .u64 (ai .mul .u64 (q / 18446744073709551616) 2) (ai .shr .u64 (q%18446744073709551616) 63)=(2*q) / 18446744073709551616:=by
   simp only[dH,mO,ajH,wrap_u64];omega
  have e3:ai .mul .u64 (q%18446744073709551616) 2=(2*q)%18446744073709551616:=by
   simp only[mO,wrap_u64];omega
  have e3':ai .add .u64 ((2*q)%18446744073709551616) 1=(2*q+1)%18446744073709551616:=by
   simp only[dH,wrap_u64];omega
  have e3'':(2*q) / 18446744073709551616=(2*q+1) / 18446744073709551616:=by omega
  have e4:ai .add .u64 (ai .mul .u64 0 2) (ai .shr .u64 r 63)=0:=by
   simp only[dH,mO,ajH,wrap_u64];omega
  have e5:ai .add .u64 (ai .mul .u64 r 2) (A%2)=r*2+A%2:=by
   simp only[dH,mO,wrap_u64];omega
  have e6:ai .sub .i64 (m:Int) 64=m - 64:=by rw[dG,aY (by omega) (by omega)]
  refine Cj _ _ _ _ _ _ _ _ _ _ ?_ ?_ ?_ ?_ ?_
  ·intro a b c
   simp only[fD] at b
   have b:(63:Int)<m:=b
   simp only[gh b,e1,e2,e3,e3',e4,e5,e6,Int.zero_mul,Int.zero_add,Nj,decide_eq_true_eq] at c ⊢
   obtain⟨t1,t2⟩:=s1 c
   rw[t1,t2] at ih
   refine⟨by simp only[and_true];omega,?_⟩
   rw[e3'',show(r*2+A%2 - d) / 18446744073709551616=0 by omega,show(r*2+A%2 - d)%18446744073709551616=r*2+A%2 - d by omega]
   exact ih
  ·intro a b c
   simp only[fD] at b
   have b:(63:Int)<m:=b
   simp only[gh b,e1,e2,e3,e4,e5,e6,Int.zero_mul,Int.zero_add,NZ,decide_eq_true_eq] at c ⊢
   obtain⟨t1,t2⟩:=s2 c
   rw[t1,t2] at ih
   exact⟨by simp only[and_true];omega,ih⟩
  ·intro a b c
   simp only[iD] at b
   have b:(m:Int)≤63:=b
   simp only[gl b,e1,e2,e3,e3',e4,e5,Int.zero_mul,Int.zero_add,Nj,decide_eq_true_eq] at c ⊢
   obtain⟨t1,t2⟩:=s1 c
   rw[t1,t2] at ih
   refine⟨by simp only[and_true];omega,?_⟩
   rw[e3'',show(r*2+A%2 - d) / 18446744073709551616=0 by omega,show(r*2+A%2 - d)%18446744073709551616=r*2+A%2 - d by omega]
   exact ih
  ·intro a b c
   simp only[iD] at b
   have b:(m:Int)≤63:=b
   simp only[gl b,e1,e2,e3,e4,e5,Int.zero_mul,Int.zero_add,NZ,decide_eq_true_eq] at c ⊢
   obtain⟨t1,t2⟩:=s2 c
   rw[t1,t2] at ih
   exact⟨by simp only[and_true];omega,ih⟩
  ·intro a;simp only[dS] at a;omega
end MeterS
end
noncomputable section
namespace MeterS
open Go Go.Dam Go.Proofs
set_option maxRecDepth 1000000
variable [iG]
theorem aaZ (h l d qh ql rl:Int):iY Pg (X4) 100000 [.d true] 173 [D.agg [D.v (Value.int .u64 h),D.v (Value.int .u64 l)],D.v (Value.int .u64 d)]=some (D.aS
 [D.agg [D.v (Value.int .u64 0),D.v (Value.int .u64 0)],D.v (Value.int .u64 0),
  D.v (Value.int .i64 26)],[ah .eql d 0=true]):=by kernel_rfl
theorem abJ (h l d qh ql rl:Int):iY Pg (X4) 100000 [.d false,PE.l [[1,2,4,5,6,7,8,9]] [(64,64),(128,128),(224,224),(256,256)] (eG d 127 h l 0 0 0 0)
 (Ex.exit 0) (eG d (-1) h l qh ql 0 rl)] 173 [D.agg [D.v (Value.int .u64 h),D.v (Value.int .u64 l)],D.v (Value.int .u64 d)]=some (D.aS
 [D.agg [D.v (Value.int .u64 qh),D.v (Value.int .u64 ql)],D.v (Value.int .u64 rl),
  D.v (Value.int .i64 0)],[(eG d 127 h l 0 0 0 0=eG d 127 h l 0 0 0 0),
 Rl 173 0 (eG d 127 h l 0 0 0 0).abs (Ex.exit 0) (eG d (-1) h l qh ql 0 rl).abs,
 ah .eql d 0=false]):=by kernel_rfl
theorem QI (h l d qh ql rl:Int) (res:D)
 (h0:((ah .eql d 0)=true)→(True)∧res=D.aS
 [D.agg [D.v (Value.int .u64 0),D.v (Value.int .u64 0)],D.v (Value.int .u64 0),
  D.v (Value.int .i64 26)])
 (h1:((ah .eql d 0)=false)→((Rl 173 0 (eG d 127 h l 0 0 0 0).abs (Ex.exit 0) (eG d (-1) h l qh ql 0 rl).abs)∧True)∧res=D.aS
 [D.agg [D.v (Value.int .u64 qh),D.v (Value.int .u64 ql)],D.v (Value.int .u64 rl),
  D.v (Value.int .i64 0)]):
 Kl 173 [D.agg [D.v (Value.int .u64 h),D.v (Value.int .u64 l)],D.v (Value.int .u64 d)] res:=by
 cases e0:(ah .eql d 0) with
 |true=>
  exact aT (VZ) (aaZ h l d qh ql rl) ⟨e0,trivial⟩ (h0 e0).2
 |false=>
  exact aT (VZ) (abJ h l d qh ql rl) ⟨rfl,(h1 e0).1.1,e0,trivial⟩ (h1 e0).2
theorem aiq (h l d:Int):iY Pg (X4) 100000 [.d true] 114 [D.agg [D.v (Value.int .u64 h),D.v (Value.int .u64 l)],D.v (Value.int .u64 d)]=some (D.aS
 [D.agg [D.v (Value.int .u64 0),D.v (Value.int .u64 0)],D.v (Value.int .u64 0),
  D.v (Value.int .i64 26)],[ah .eql d 0=true]):=by kernel_rfl
theorem agk (h l d:Int):iY Pg (X4) 100000 [.d false] 114 [D.agg [D.v (Value.int .u64 h),D.v (Value.int .u64 l)],D.v (Value.int .u64 d)]=some (D.aS
 [D.agg
   [D.v (Value.int .u64 ((0+h) / d)),
    D.v (Value.int .u64 (((0+h)%d*18446744073709551616+l) / d))],
  D.v (Value.int .u64 (((0+h)%d*18446744073709551616+l)%d)),D.v (Value.int .i64 0)],[0≤(0+h)%d,
 (0+h)%d<d,
 d<4294967296,
 0≤l,
 l<18446744073709551616,
 (0:Int)≤(0:Int),
 0<d,
 d<4294967296,
 0≤h,
 h<18446744073709551616,
 ah .eql d 0=false]):=by kernel_rfl
theorem VY (h l d:Int) (res:D)
 (h0:((ah .eql d 0)=true)→(True)∧res=D.aS
 [D.agg [D.v (Value.int .u64 0),D.v (Value.int .u64 0)],D.v (Value.int .u64 0),
  D.v (Value.int .i64 26)])
 (h1:((ah .eql d 0)=false)→((0≤(0+h)%d)∧((0+h)%d<d)∧(d<4294967296)∧(0≤l)∧(l<18446744073709551616)∧((0:Int)≤(0:Int))∧(0<d)∧(d<4294967296)∧(0≤h)∧(h<18446744073709551616)∧True)∧res=D.aS
 [D.agg
   [D.v (Value.int .u64 ((0+h) / d)),
    D.v (Value.int .u64 (((0+h)%d*18446744073709551616+l) / d))],
  D.v (Value.int .u64 (((0+h)%d*18446744073709551616+l)%d)),D.v (Value.int .i64 0)]):
 Kl 114 [D.agg [D.v (Value.int .u64 h),D.v (Value.int .u64 l)],D.v (Value.int .u64 d)] res:=by
 cases e0:(ah .eql d 0) with
 |true=>
  exact aT (VZ) (aiq h l d) ⟨e0,trivial⟩ (h0 e0).2
 |false=>
  exact aT (VZ) (agk h l d) ⟨(h1 e0).1.1,(h1 e0).1.2.1,(h1 e0).1.2.2.1,(h1 e0).1.2.2.2.1,(h1 e0).1.2.2.2.2.1,(h1 e0).1.2.2.2.2.2.1,(h1 e0).1.2.2.2.2.2.2.1,(h1 e0).1.2.2.2.2.2.2.2.1,(h1 e0).1.2.2.2.2.2.2.2.2.1,(h1 e0).1.2.2.2.2.2.2.2.2.2.1,e0,trivial⟩ (h1 e0).2
def agj (a d:Int):D:= .aS [wd (a / d),u64 (a%d),i64 0]
theorem abS (h l d:Int) (hd:0<d) (hd1:d<4294967296) (h0:0≤h) (h1:h<18446744073709551616) (l0:0≤l) (l1:l<18446744073709551616):
  Kl 173 [.agg [u64 h,u64 l],u64 d] (agj (h*18446744073709551616+l) d):=by
 refine QI h l d ((h*18446744073709551616+l) / d / 18446744073709551616) ((h*18446744073709551616+l) / d%18446744073709551616) ((h*18446744073709551616+l)%d) _ ?_ ?_
 ·intro a;rw[bY] at a;omega
 ·intro a
  refine⟨⟨?_,trivial⟩,rfl⟩
  have:=Vf d h l hd hd1 h0 h1 l0 l1 128 (by decide)
  have e:(h*18446744073709551616+l) / 2 ^ 128=0:=Int.ediv_eq_zero_of_lt (by omega) (by omega)
  rw[e,Int.zero_ediv,Int.zero_emod] at this
  exact au this
theorem ai1 (h l d:Int) (hd:0<d) (hd1:d<4294967296) (h0:0≤h) (h1:h<18446744073709551616) (l0:0≤l) (l1:l<18446744073709551616):
  Kl 114 [.agg [u64 h,u64 l],u64 d] (agj (h*18446744073709551616+l) d):=by
 have r0:=Int.emod_nonneg h (show d≠0 by omega)
 have r1:=Int.emod_lt_of_pos h hd
 have hq:=Int.mul_ediv_add_emod h d
 have q0:0≤h / d:=Int.ediv_nonneg h0 (by omega)
 have q1:h / d≤h:=Int.ediv_le_self _ h0
 refine VY h l d _ ?_ ?_
 ·intro a;rw[bY] at a;omega
 ·intro a
  simp only[Int.zero_mul,Int.zero_add]
  refine⟨by simp only[and_true];omega,?_⟩
  have s0:=Int.emod_nonneg (h%d*18446744073709551616+l) (show d≠0 by omega)
  have s1:=Int.emod_lt_of_pos (h%d*18446744073709551616+l) hd
  have hs:=Int.mul_ediv_add_emod (h%d*18446744073709551616+l) d
  have s2:0≤(h%d*18446744073709551616+l) / d:=Int.ediv_nonneg (by omega) (by omega)
  have s3:(h%d*18446744073709551616+l) / d<18446744073709551616:=by
   rw[Int.ediv_lt_iff_lt_mul hd];omega
  have key:(h*18446744073709551616+l) / d=h / d*18446744073709551616+(h%d*18446744073709551616+l) / d∧(h*18446744073709551616+l)%d=(h%d*18446744073709551616+l)%d:=by
   have e:h*18446744073709551616+l=(h%d*18446744073709551616+l)%d+d*(h / d*18446744073709551616+(h%d*18446744073709551616+l) / d):=by
    rw[Int.mul_add,←Int.mul_assoc];omega
   refine⟨?_,?_⟩
   ·rw[e,Int.add_mul_ediv_left _ _ (by omega),Int.ediv_eq_zero_of_lt s0 s1,Int.zero_add]
   ·rw[e,Int.add_mul_emod_self_left,Int.emod_eq_of_lt s0 s1]
  unfold agj wd
  rw[key.1,key.2,show(h / d*18446744073709551616+(h%d*18446744073709551616+l) / d) / 18446744073709551616=h / d by omega,show(h / d*18446744073709551616+(h%d*18446744073709551616+l) / d)%18446744073709551616=(h%d*18446744073709551616+l) / d by omega]
def Oe:List D→Option (D×List Prop)
 |[.agg [.v (.int .u64 h), .v (.int .u64 l)], .v (.int .u64 d)]=>some (agj (h*18446744073709551616+l) d,[0<d,d<4294967296,0≤h,h<18446744073709551616,0≤l,l<18446744073709551616])
 |_=>none
theorem aeV (args res l) (h:Oe args=some (res,l)) (hl:aJ l):Kl 114 args res:=by
 unfold Oe at h;split at h
 ·obtain⟨rfl,rfl⟩:=dB h;obtain⟨h0,h1,h2,h3,h4,h5,_⟩:=hl
  exact ai1 _ _ _ h0 h1 h2 h3 h4 h5
 ·cases h
theorem aei (args res l) (h:Oe args=some (res,l)) (hl:aJ l):Kl 173 args res:=by
 unfold Oe at h;split at h
 ·obtain⟨rfl,rfl⟩:=dB h;obtain⟨h0,h1,h2,h3,h4,h5,_⟩:=hl
  exact abS _ _ _ h0 h1 h2 h3 h4 h5
 ·cases h
def X5:aB:=aF 114 (.call Oe) (aF 173 (.call Oe) X4)
theorem hX5:bT Pg X5:=aj aeV (aj aei VZ)
theorem amF (x:Int):iY Pg (X4) 100000 [] 113 [D.v (Value.int .u64 x)]=some (D.agg [D.v (Value.int .u64 0),D.v (Value.int .u64 x)],[]):=by kernel_rfl
theorem Z4 (x:Int) (res:D)
 (h0:(True)∧res=D.agg [D.v (Value.int .u64 0),D.v (Value.int .u64 x)]):
 Kl 113 [D.v (Value.int .u64 x)] res:=by
 exact aT (VZ) (amF x) trivial (h0).2
theorem aaD (h l:Int):iY Pg (X4) 100000 [.d true] 115 [D.agg [D.v (Value.int .u64 h),D.v (Value.int .u64 l)]]=some (D.aS [D.v (Value.int .u64 0),D.v (Value.int .i64 16)],[ah .neq h 0=true]):=by kernel_rfl
theorem ZW (h l:Int):iY Pg (X4) 100000 [.d false] 115 [D.agg [D.v (Value.int .u64 h),D.v (Value.int .u64 l)]]=some (D.aS [D.v (Value.int .u64 l),D.v (Value.int .i64 0)],[ah .neq h 0=false]):=by kernel_rfl
theorem OJ (h l:Int) (res:D)
 (h0:((ah .neq h 0)=true)→(True)∧res=D.aS [D.v (Value.int .u64 0),D.v (Value.int .i64 16)])
 (h1:((ah .neq h 0)=false)→(True)∧res=D.aS [D.v (Value.int .u64 l),D.v (Value.int .i64 0)]):
 Kl 115 [D.agg [D.v (Value.int .u64 h),D.v (Value.int .u64 l)]] res:=by
 cases e0:(ah .neq h 0) with
 |true=>
  exact aT (VZ) (aaD h l) ⟨e0,trivial⟩ (h0 e0).2
 |false=>
  exact aT (VZ) (ZW h l) ⟨e0,trivial⟩ (h1 e0).2
def ofC:List D→Option (D×List Prop)
 |[.v (.int .u64 x)]=>some (.agg [u64 0,u64 x],[])
 |_=>none
def Yh:List D→Option (D×List Prop)
 |[.agg [.v (.int .u64 h), .v (.int .u64 l)]]=>some (.aS [u64 (if h=0 then l else 0),i64 (if h=0 then 0 else 16)],[])
 |_=>none
theorem akr (args res l) (h:ofC args=some (res,l)) (hl:aJ l):Kl 113 args res:=by
 unfold ofC at h;split at h
 ·obtain⟨rfl,rfl⟩:=dB h
  exact Z4 _ _ ⟨trivial,rfl⟩
 ·cases h
theorem ZF (args res l) (h:Yh args=some (res,l)) (hl:aJ l):Kl 115 args res:=by
 unfold Yh at h;split at h
 ·obtain⟨rfl,rfl⟩:=dB h
  refine OJ _ _ _ ?_ ?_
  ·intro a;rw[aI] at a;rw[if_neg a,if_neg a];exact⟨trivial,rfl⟩
  ·intro a;rw[aQ] at a;rw[if_pos a,if_pos a];exact⟨trivial,rfl⟩
 ·cases h
def X6:aB:=aF 113 (.call ofC) (aF 115 (.call Yh) X5)
theorem hX6:bT Pg X6:=aj akr (aj ZF hX5)
end MeterS
end
