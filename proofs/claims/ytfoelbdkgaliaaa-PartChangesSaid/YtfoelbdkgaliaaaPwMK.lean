/- What the functions compute, and the law. No condition. -/
import Derived.Test.YtfoelbdkgaliaaaPwMI
set_option linter.unusedSectionVars false
set_option linter.unusedVariables false
set_option linter.unusedSimpArgs false
section
namespace MeterS
open Go Go.Dam Go.Proofs
set_option maxRecDepth 1000000
variable [gB]
theorem Uo (h:Int) (l:Int) (d:Int) (qh:Int) (ql:Int) (rl:Int):cu Try.prog (X4) 100000 [.d true] 81 [D.agg [D.v (Value.int .u64 h),D.v (Value.int .u64 l)],D.v (Value.int .u64 d)]=some (D.bF
 [D.agg [D.v (Value.int .u64 0),D.v (Value.int .u64 0)],D.v (Value.int .u64 0),
  D.v (Value.int .i64 26)],[ai .eql d 0=true]):=by kernel_rfl
theorem Uj (h:Int) (l:Int) (d:Int) (qh:Int) (ql:Int) (rl:Int):cu Try.prog (X4) 100000 [.d false,PE.l [[1,2,4,5,6,7,8,9]] [(64,64),(128,128),(224,224),(256,256)] (dH d 127 h l 0 0 0 0)
 (Ex.exit 0) (dH d (-1) h l qh ql 0 rl)] 81 [D.agg [D.v (Value.int .u64 h),D.v (Value.int .u64 l)],D.v (Value.int .u64 d)]=some (D.bF
 [D.agg [D.v (Value.int .u64 qh),D.v (Value.int .u64 ql)],D.v (Value.int .u64 rl),
  D.v (Value.int .i64 0)],[(dH d 127 h l 0 0 0 0=dH d 127 h l 0 0 0 0),
 Runs Try.prog (CallsD Try.prog) (.code (.loop (af Try.prog 81 0))) (dH d 127 h l 0 0 0 0).abs (Ex.exit 0) (dH d (-1) h l qh ql 0 rl).abs,
 ai .eql d 0=false]):=by kernel_rfl
theorem KC (h:Int) (l:Int) (d:Int) (qh:Int) (ql:Int) (rl:Int) (res:D)
 (h0:((ai .eql d 0)=true)→(True)∧res=D.bF
 [D.agg [D.v (Value.int .u64 0),D.v (Value.int .u64 0)],D.v (Value.int .u64 0),
  D.v (Value.int .i64 26)])
 (h1:((ai .eql d 0)=false)→((Runs Try.prog (CallsD Try.prog) (.code (.loop (af Try.prog 81 0))) (dH d 127 h l 0 0 0 0).abs (Ex.exit 0) (dH d (-1) h l qh ql 0 rl).abs)∧True)∧res=D.bF
 [D.agg [D.v (Value.int .u64 qh),D.v (Value.int .u64 ql)],D.v (Value.int .u64 rl),
  D.v (Value.int .i64 0)]):
 CallsD Try.prog 81 [D.agg [D.v (Value.int .u64 h),D.v (Value.int .u64 l)],D.v (Value.int .u64 d)] res:=by
 cases e0:(ai .eql d 0) with
 |true=>
  exact aV (Q7) (Uo h l d qh ql rl) ⟨e0,trivial⟩ (h0 e0).2
 |false=>
  exact aV (Q7) (Uj h l d qh ql rl) ⟨rfl,(h1 e0).1.1,e0,trivial⟩ (h1 e0).2
theorem Z7 (h:Int) (l:Int) (d:Int):cu Try.prog (X4) 100000 [.d true] 66 [D.agg [D.v (Value.int .u64 h),D.v (Value.int .u64 l)],D.v (Value.int .u64 d)]=some (D.bF
 [D.agg [D.v (Value.int .u64 0),D.v (Value.int .u64 0)],D.v (Value.int .u64 0),
  D.v (Value.int .i64 26)],[ai .eql d 0=true]):=by kernel_rfl
theorem abS (h:Int) (l:Int) (d:Int):cu Try.prog (X4) 100000 [.d false] 66 [D.agg [D.v (Value.int .u64 h),D.v (Value.int .u64 l)],D.v (Value.int .u64 d)]=some (D.bF
 [D.agg
   [D.v (Value.int .u64 ((0+h) / d)),
    D.v (Value.int .u64 (((0+h)%d*18446744073709551616+l) / d))],
  D.v (Value.int .u64 (((0+h)%d*18446744073709551616+l)%d)),D.v (Value.int .i64 0)],[0≤(0+h)%d,
 (0+h)%d<d,
 d<4294967296,
 0≤l,
 l<18446744073709551616,
 (0:Int)≤(0:Int),
 0<d,
 d<4294967296,
 0≤h,
 h<18446744073709551616,
 ai .eql d 0=false]):=by kernel_rfl
theorem Qn (h:Int) (l:Int) (d:Int) (res:D)
 (h0:((ai .eql d 0)=true)→(True)∧res=D.bF
 [D.agg [D.v (Value.int .u64 0),D.v (Value.int .u64 0)],D.v (Value.int .u64 0),
  D.v (Value.int .i64 26)])
 (h1:((ai .eql d 0)=false)→((0≤(0+h)%d)∧((0+h)%d<d)∧(d<4294967296)∧(0≤l)∧(l<18446744073709551616)∧((0:Int)≤(0:Int))∧(0<d)∧(d<4294967296)∧(0≤h)∧(h<18446744073709551616)∧True)∧res=D.bF
 [D.agg
   [D.v (Value.int .u64 ((0+h) / d)),
    D.v (Value.int .u64 (((0+h)%d*18446744073709551616+l) / d))],
  D.v (Value.int .u64 (((0+h)%d*18446744073709551616+l)%d)),D.v (Value.int .i64 0)]):
 CallsD Try.prog 66 [D.agg [D.v (Value.int .u64 h),D.v (Value.int .u64 l)],D.v (Value.int .u64 d)] res:=by
 cases e0:(ai .eql d 0) with
 |true=>
  exact aV (Q7) (Z7 h l d) ⟨e0,trivial⟩ (h0 e0).2
 |false=>
  exact aV (Q7) (abS h l d) ⟨(h1 e0).1.1,(h1 e0).1.2.1,(h1 e0).1.2.2.1,(h1 e0).1.2.2.2.1,(h1 e0).1.2.2.2.2.1,(h1 e0).1.2.2.2.2.2.1,(h1 e0).1.2.2.2.2.2.2.1,(h1 e0).1.2.2.2.2.2.2.2.1,(h1 e0).1.2.2.2.2.2.2.2.2.1,(h1 e0).1.2.2.2.2.2.2.2.2.2.1,e0,trivial⟩ (h1 e0).2
def abd (a d:Int):D:= .bF [wd (a / d),u64 (a%d),i64 0]
theorem Ug (h l d:Int) (hd:0<d) (hd1:d<4294967296) (h0:0≤h) (h1:h<18446744073709551616) (l0:0≤l) (l1:l<18446744073709551616):
  CallsD Try.prog 81 [.agg [u64 h,u64 l],u64 d] (abd (h*18446744073709551616+l) d):=by
 refine KC h l d ((h*18446744073709551616+l) / d / 18446744073709551616) ((h*18446744073709551616+l) / d%18446744073709551616) ((h*18446744073709551616+l)%d) _ ?_ ?_
 ·intro a;rw[iM] at a;omega
 ·intro a
  refine⟨⟨?_,trivial⟩,rfl⟩
  have:=Nr d h l hd hd1 h0 h1 l0 l1 128 (by decide)
  have e:(h*18446744073709551616+l) / 2 ^ 128=0:=Int.ediv_eq_zero_of_lt (by omega) (by omega)
  rw[e,Int.zero_ediv,Int.zero_emod] at this
  exact ak this
theorem aa0 (h l d:Int) (hd:0<d) (hd1:d<4294967296) (h0:0≤h) (h1:h<18446744073709551616) (l0:0≤l) (l1:l<18446744073709551616):
  CallsD Try.prog 66 [.agg [u64 h,u64 l],u64 d] (abd (h*18446744073709551616+l) d):=by
 have r0:=Int.emod_nonneg h (show d≠0 by omega)
 have r1:=Int.emod_lt_of_pos h hd
 have hq:=Int.mul_ediv_add_emod h d
 have q0:0≤h / d:=Int.ediv_nonneg h0 (by omega)
 have q1:h / d≤h:=Int.ediv_le_self _ h0
 refine Qn h l d _ ?_ ?_
 ·intro a;rw[iM] at a;omega
 ·intro a
  simp only[Int.zero_mul,Int.zero_add]
  refine⟨by simp only[and_true];omega,?_⟩
  have s0:=Int.emod_nonneg (h%d*18446744073709551616+l) (show d≠0 by omega)
  have s1:=Int.emod_lt_of_pos (h%d*18446744073709551616+l) hd
  have hs:=Int.mul_ediv_add_emod (h%d*18446744073709551616+l) d
  have s2:0≤(h%d*18446744073709551616+l) / d:=Int.ediv_nonneg (by omega) (by omega)
  have s3:(h%d*18446744073709551616+l) / d<18446744073709551616:=by
   rw[Int.ediv_lt_iff_lt_mul hd];omega
  have key:(h*18446744073709551616+l) / d=h / d*18446744073709551616+(h%d*18446744073709551616+l) / d∧(h*18446744073709551616+l)%d=(h%d*18446744073709551616+l)%d:=by
   have e:h*18446744073709551616+l=(h%d*18446744073709551616+l)%d+d*(h / d*18446744073709551616+(h%d*18446744073709551616+l) / d):=by
    rw[Int.mul_add,←Int.mul_assoc];omega
   refine⟨?_,?_⟩
   ·rw[e,Int.add_mul_ediv_left _ _ (by omega),Int.ediv_eq_zero_of_lt s0 s1,Int.zero_add]
   ·rw[e,Int.add_mul_emod_self_left,Int.emod_eq_of_lt s0 s1]
  unfold abd wd
  rw[key.1,key.2,show(h / d*18446744073709551616+(h%d*18446744073709551616+l) / d) / 18446744073709551616=h / d by omega,show(h / d*18446744073709551616+(h%d*18446744073709551616+l) / d)%18446744073709551616=(h%d*18446744073709551616+l) / d by omega]
def IC:List D→Option (D×List Prop)
 |[.agg [.v (.int .u64 h), .v (.int .u64 l)], .v (.int .u64 d)]=>some (abd (h*18446744073709551616+l) d,[0<d,d<4294967296,0≤h,h<18446744073709551616,0≤l,l<18446744073709551616])
 |_=>none
theorem Zc (args res l) (h:IC args=some (res,l)) (hl:aI l):CallsD Try.prog 66 args res:=by
 unfold IC at h;split at h
 ·simp only[Option.some.injEq,Prod.mk.injEq] at h
  obtain⟨rfl,rfl⟩:=h;obtain⟨h0,h1,h2,h3,h4,h5,_⟩:=hl
  exact aa0 _ _ _ h0 h1 h2 h3 h4 h5
 ·cases h
theorem Yc (args res l) (h:IC args=some (res,l)) (hl:aI l):CallsD Try.prog 81 args res:=by
 unfold IC at h;split at h
 ·simp only[Option.some.injEq,Prod.mk.injEq] at h
  obtain⟨rfl,rfl⟩:=h;obtain⟨h0,h1,h2,h3,h4,h5,_⟩:=hl
  exact Ug _ _ _ h0 h1 h2 h3 h4 h5
 ·cases h
def X5:aB:=aJ 66 (.call IC) (aJ 81 (.call IC) X4)
theorem hX5:bG Try.prog X5:=ax Zc (ax Yc Q7)
end MeterS
end

section
namespace MeterS
open Go Go.Dam Go.Proofs
set_option maxRecDepth 1000000
variable [gB]
theorem adP (x:Int):cu Try.prog (X4) 100000 [] 65 [D.v (Value.int .u64 x)]=some (D.agg [D.v (Value.int .u64 0),D.v (Value.int .u64 x)],[]):=by kernel_rfl
theorem VA (x:Int) (res:D)
 (h0:(True)∧res=D.agg [D.v (Value.int .u64 0),D.v (Value.int .u64 x)]):
 CallsD Try.prog 65 [D.v (Value.int .u64 x)] res:=by
 exact aV (Q7) (adP x) trivial (h0).2
theorem VQ (h:Int) (l:Int):cu Try.prog (X4) 100000 [.d true] 67 [D.agg [D.v (Value.int .u64 h),D.v (Value.int .u64 l)]]=some (D.bF [D.v (Value.int .u64 0),D.v (Value.int .i64 16)],[ai .neq h 0=true]):=by kernel_rfl
theorem V6 (h:Int) (l:Int):cu Try.prog (X4) 100000 [.d false] 67 [D.agg [D.v (Value.int .u64 h),D.v (Value.int .u64 l)]]=some (D.bF [D.v (Value.int .u64 l),D.v (Value.int .i64 0)],[ai .neq h 0=false]):=by kernel_rfl
theorem Jv (h:Int) (l:Int) (res:D)
 (h0:((ai .neq h 0)=true)→(True)∧res=D.bF [D.v (Value.int .u64 0),D.v (Value.int .i64 16)])
 (h1:((ai .neq h 0)=false)→(True)∧res=D.bF [D.v (Value.int .u64 l),D.v (Value.int .i64 0)]):
 CallsD Try.prog 67 [D.agg [D.v (Value.int .u64 h),D.v (Value.int .u64 l)]] res:=by
 cases e0:(ai .neq h 0) with
 |true=>
  exact aV (Q7) (VQ h l) ⟨e0,trivial⟩ (h0 e0).2
 |false=>
  exact aV (Q7) (V6 h l) ⟨e0,trivial⟩ (h1 e0).2
def ofC:List D→Option (D×List Prop)
 |[.v (.int .u64 x)]=>some (.agg [u64 0,u64 x],[])
 |_=>none
def Qz:List D→Option (D×List Prop)
 |[.agg [.v (.int .u64 h), .v (.int .u64 l)]]=>some (.bF [u64 (if h=0 then l else 0),i64 (if h=0 then 0 else 16)],[])
 |_=>none
theorem aeI (args res l) (h:ofC args=some (res,l)) (hl:aI l):CallsD Try.prog 65 args res:=by
 unfold ofC at h;split at h
 ·simp only[Option.some.injEq,Prod.mk.injEq] at h
  obtain⟨rfl,rfl⟩:=h
  exact VA _ _ ⟨trivial,rfl⟩
 ·cases h
theorem Uh (args res l) (h:Qz args=some (res,l)) (hl:aI l):CallsD Try.prog 67 args res:=by
 unfold Qz at h;split at h
 ·simp only[Option.some.injEq,Prod.mk.injEq] at h
  obtain⟨rfl,rfl⟩:=h
  refine Jv _ _ _ ?_ ?_
  ·intro a;rw[aP] at a;rw[if_neg a,if_neg a];exact⟨trivial,rfl⟩
  ·intro a;rw[aY] at a;rw[if_pos a,if_pos a];exact⟨trivial,rfl⟩
 ·cases h
def X6:aB:=aJ 65 (.call ofC) (aJ 67 (.call Qz) X5)
theorem hX6:bG Try.prog X6:=ax aeI (ax Uh hX5)
end MeterS
end
