/- What the functions compute, and the law. No condition. -/
import Derived.Test.YtfoelbdkgaliaaaPaPB
set_option linter.unusedSectionVars false
set_option linter.unusedVariables false
set_option linter.unusedSimpArgs false
section
namespace TableS
open Go Go.Dam Go.Proofs
set_option maxRecDepth 1000000
noncomputable def qQ (i j:Int):=aj .shr .u64 (IntKind.u64.wrap (aj .add .i64 i j)) 1
noncomputable def Ej (i j:Int):=aj .add .i64 (IntKind.i64.wrap (qQ i j)) 1
noncomputable def P9 (xs:List Int) (u o:Int) (c:Bool) (n i j:Int):=Q5 (xs) (u) (o) (c) (n) (i) (IntKind.i64.wrap (qQ i j))
noncomputable def JY (xs:List Int) (u i j:Int):=ai .lss (xs.getD (IntKind.i64.wrap (qQ i j)).toNat 0) u
noncomputable def Qe (xs:List Int) (i j:Int):=ai .neq (xs.getD (IntKind.i64.wrap (qQ i j)).toNat 0) (xs.getD (IntKind.i64.wrap (qQ i j)).toNat 0)
noncomputable def xJ (xs:List Int) (u:Int) (o:Int) (c:Bool) (n:Int) (i:Int) (j:Int):Tr (Ex×Cs):= .d (ai .lss i j) (fun e0=> .q (true) (.s (decide (IntKind.i64.wrap (qQ i j)< ↑(xs.length))=true) (.s (decide (0≤IntKind.i64.wrap (qQ i j))=true) (.d (Qe xs i j) (fun e1=> .p (.c 1) (.d (!ai .neq u u) (fun e2=> .p (.c 2) (.lf (Ex.normal,(Q5 (xs) (u) (o) (c) (n) (Ej i j) (j))))) (fun e2=> .p (.c 1) (.d (JY xs u i j) (fun e3=> .lf (Ex.normal,(Q5 (xs) (u) (o) (c) (n) (Ej i j) (j)))) (fun e3=> .lf (Ex.normal,(P9 xs u o c n i j))))))) (fun e1=> .p (.c 4) (.d (JY xs u i j) (fun e2=> .lf (Ex.normal,(Q5 (xs) (u) (o) (c) (n) (Ej i j) (j)))) (fun e2=> .lf (Ex.normal,(P9 xs u o c n i j))))))))) (fun e0=> .lf (Ex.exit 0,(Q5 (xs) (u) (o) (c) (n) (i) (j))))
theorem ah7 (xs:List Int) (u o:Int) (c:Bool) (n i j:Int):Leaves (bT Try.prog (X8) 100000 (af Try.prog 26 0) [[0,1,4,5,6,7,8]] [] (Q5 xs u o c n i j)) (xJ xs u o c n i j) [] []:=by refine⟨fun _=>⟨fun _=>⟨fun _=>?_,fun _=>⟨fun _=>?_,fun _=>?_⟩⟩,fun _=>⟨fun _=>?_,fun _=>?_⟩⟩,fun _=>?_⟩<;>(show _=_;kernel_rfl)
theorem NT (xs:List Int) (u:Int) (o:Int) (c:Bool) (n:Int) (i:Int) (j:Int) (σ:St) (e:Ex) (h0:At (RG Try.prog (af Try.prog 26 0) e σ) (xJ xs u o c n i j) [true,true,true] True) (h1:At (RG Try.prog (af Try.prog 26 0) e σ) (xJ xs u o c n i j) [true,true,false,true] True) (h2:At (RG Try.prog (af Try.prog 26 0) e σ) (xJ xs u o c n i j) [true,true,false,false] True) (h3:At (RG Try.prog (af Try.prog 26 0) e σ) (xJ xs u o c n i j) [true,false,true] True) (h4:At (RG Try.prog (af Try.prog 26 0) e σ) (xJ xs u o c n i j) [true,false,false] True) (h5:At (RG Try.prog (af Try.prog 26 0) e σ) (xJ xs u o c n i j) [false] True):Runs Try.prog (CallsD Try.prog) (.rounds (af Try.prog 26 0)) (Q5 xs u o c n i j).abs e σ:=aO (Um) (ah7 xs u o c n i j) ⟨fun e0=>⟨fun e1=>⟨fun e2=>h0 e0 e1 e2,fun e2=>⟨fun e3=>h1 e0 e1 e2 e3,fun e3=>h2 e0 e1 e2 e3⟩⟩,fun e1=>⟨fun e2=>h3 e0 e1 e2,fun e2=>h4 e0 e1 e2⟩⟩,fun e0=>h5 e0⟩
noncomputable def afR (xs:List Int) (u i j:Int):=Runs Try.prog (CallsD Try.prog) (.code (.loop (af Try.prog 26 0))) (Q5 xs u 0 false (↑xs.length) 0 ↑xs.length).abs (Ex.exit 0) (Q5 xs u 0 false (↑xs.length) i j).abs
noncomputable def I4 (xs:List Int) (u:Int) (i:Int) (j:Int):Tr D:= .p (.l [[0,1,4,5,6,7,8]] [] (Q5 xs u 0 false (↑xs.length) 0 ↑xs.length) (Ex.exit 0) (Q5 xs u 0 false (↑xs.length) i j)) (.s (afR xs u i j) (.k ((Q5 xs u 0 false (↑xs.length) 0 ↑xs.length=Q5 xs u 0 false (↑xs.length) 0 ↑xs.length)) rfl (.d (ai .lss i ↑xs.length) (fun e0=> .p (.c 5) (.s (decide (i< ↑(xs.length))=true) (.s (decide (0≤i)=true) (.d (ai .eql (xs.getD i.toNat 0) u) (fun e1=> .p (.c 6) (.lf (D.bF [i64 i,bo true]))) (fun e1=> .p (.c 4) (.s (decide (i< ↑(xs.length))=true) (.s (decide (0≤i)=true) (.d (ai .neq (xs.getD i.toNat 0) (xs.getD i.toNat 0)) (fun e2=> .p (.c 2) (.lf (D.bF [i64 i,bo (ai .neq u u)]))) (fun e2=> .p (.c 2) (.lf (D.bF [i64 i,bo false]))))))))))) (fun e0=> .p (.c 6) (.lf (D.bF [i64 i,bo false]))))))
theorem aiW (xs:List Int) (u i j:Int):Leaves (fun l=>cu Try.prog (X8) 100000 l 26 [ru xs,u32 u]) (I4 xs u i j) [] []:=by refine⟨fun _=>⟨fun _=>?_,fun _=>⟨fun _=>?_,fun _=>?_⟩⟩,fun _=>?_⟩<;>(show _=_;kernel_rfl)
theorem Vh (xs:List Int) (u i j:Int) (res:D) (h0:At (fun r=>res=r) (I4 xs u i j) [true,true] True) (h1:At (fun r=>res=r) (I4 xs u i j) [true,false,true] True) (h2:At (fun r=>res=r) (I4 xs u i j) [true,false,false] True) (h3:At (fun r=>res=r) (I4 xs u i j) [false] True):CallsD Try.prog 26 [ru xs,u32 u] res:=au (Um) (aiW xs u i j) ⟨fun e0=>⟨fun e1=>h0 e0 e1,fun e1=>⟨fun e2=>h1 e0 e1 e2,fun e2=>h2 e0 e1 e2⟩⟩,fun e0=>h3 e0⟩
noncomputable def OU (xs:List Int) (u:Int) (o:Int) (m:Int) (i:Int):Tr (Ex×Cs):= .d (ai .lss i m) (fun e0=> .s (decide (i< ↑(xs.length))=true) (.s (decide (0≤i)=true) (.d (ai .eql u (xs.getD i.toNat 0)) (fun e1=> .lf (Ex.ret,(LC (xs) (u) (i) (m) (i)))) (fun e1=> .lf (Ex.normal,(LC (xs) (u) (o) (m) (aj .add .i64 i 1))))))) (fun e0=> .lf (Ex.exit 0,(LC (xs) (u) (o) (m) (i))))
theorem aii (xs:List Int) (u o m i:Int):Leaves (bT Try.prog (X8) 100000 (af Try.prog 53 0) [[0,1,4,7,8]] [] (LC xs u o m i)) (OU xs u o m i) [] []:=by refine⟨fun _=>⟨fun _=>?_,fun _=>?_⟩,fun _=>?_⟩<;>(show _=_;kernel_rfl)
theorem Du (xs:List Int) (u:Int) (o:Int) (m:Int) (i:Int) (σ:St) (e:Ex) (h0:At (RG Try.prog (af Try.prog 53 0) e σ) (OU xs u o m i) [true,true] True) (h1:At (RG Try.prog (af Try.prog 53 0) e σ) (OU xs u o m i) [true,false] True) (h2:At (RG Try.prog (af Try.prog 53 0) e σ) (OU xs u o m i) [false] True):Runs Try.prog (CallsD Try.prog) (.rounds (af Try.prog 53 0)) (LC xs u o m i).abs e σ:=aO (Um) (aii xs u o m i) ⟨fun e0=>⟨fun e1=>h0 e0 e1,fun e1=>h1 e0 e1⟩,fun e0=>h2 e0⟩
noncomputable def acF (xs:List Int) (u:Int) (o:Int) (m:Int) (i:Int):Tr D:= .p (.l [[0,1,4,7,8]] [] (LC xs u 0 (↑(xs.length)) 0) (Ex.exit 0) (LC xs u o m i)) (.s (Runs Try.prog (CallsD Try.prog) (.code (.loop (af Try.prog 53 0))) (LC xs u 0 (↑(xs.length)) 0).abs (Ex.exit 0) (LC xs u o m i).abs) (.k ((LC xs u 0 (↑(xs.length)) 0=LC xs u 0 (↑(xs.length)) 0)) rfl (.lf (i64 (-1)))))
theorem ai2 (xs:List Int) (u o m i:Int):Leaves (fun l=>cu Try.prog (X8) 100000 l 53 [ru xs,u32 u]) (acF xs u o m i) [] []:=by show _=_;kernel_rfl
theorem Vz (xs:List Int) (u o m i:Int) (res:D) (h0:At (fun r=>res=r) (acF xs u o m i) [] True):CallsD Try.prog 53 [ru xs,u32 u] res:=au (Um) (ai2 xs u o m i) h0
noncomputable def acI (xs:List Int) (u:Int) (o:Int) (m:Int) (i:Int):Tr D:= .p (.l [[0,1,4,7,8]] [] (LC xs u 0 (↑(xs.length)) 0) Ex.ret (LC xs u o m i)) (.s (Runs Try.prog (CallsD Try.prog) (.code (.loop (af Try.prog 53 0))) (LC xs u 0 (↑(xs.length)) 0).abs (Ex.ret) (LC xs u o m i).abs) (.k ((LC xs u 0 (↑(xs.length)) 0=LC xs u 0 (↑(xs.length)) 0)) rfl (.lf (i64 o))))
theorem agF (xs:List Int) (u o m i:Int):Leaves (fun l=>cu Try.prog (X8) 100000 l 53 [ru xs,u32 u]) (acI xs u o m i) [] []:=by show _=_;kernel_rfl
theorem VD (xs:List Int) (u o m i:Int) (res:D) (h0:At (fun r=>res=r) (acI xs u o m i) [] True):CallsD Try.prog 53 [ru xs,u32 u] res:=au (Um) (agF xs u o m i) h0
def srt (xs:List Int):Prop:=∀ a b:Nat,a<b→b<xs.length→xs.getD a 0<xs.getD b 0
def jg (xs:List Int) (u:Int):Nat:=(xs.takeWhile fun x=>decide (x<u)).length
theorem NK (xs:List Int) (u:Int):jg xs u≤xs.length:=by
 unfold jg
 induction xs with
 |nil=>simp
 |cons x xs ih=>
  rw[List.takeWhile_cons]
  split
  ·simp only[List.length_cons];omega
  ·simp
theorem YE {xs:List Int} {u:Int}:∀ {k:Nat},k<jg xs u→xs.getD k 0<u:=by
 induction xs with
 |nil=>intro k h;simp[jg] at h
 |cons x xs ih=>
  intro k h
  unfold jg at h
  rw[List.takeWhile_cons] at h
  split at h
  next e=>
   cases k with
   |zero=>simpa using e
   |succ k=>rw[List.getD_cons_succ];exact ih (by simp only[List.length_cons] at h;unfold jg;omega)
  ·simp at h
theorem aiC {xs:List Int} {u:Int} (h:jg xs u<xs.length):¬ xs.getD (jg xs u) 0<u:=by
 induction xs with
 |nil=>simp at h
 |cons x xs ih=>
  unfold jg at h ⊢
  rw[List.takeWhile_cons] at h ⊢
  split at h
  next e=>
   simp only[List.length_cons] at h ⊢
   rw[if_pos e,List.length_cons,List.getD_cons_succ]
   exact ih (by unfold jg;omega)
  next e=>rw[if_neg e];simpa using e
theorem Zz {xs:List Int} {u:Int} (s:srt xs) {k:Nat} (h:jg xs u≤k) (hk:k<xs.length):¬ xs.getD k 0<u:=by
 have h1:=aiC (xs:=xs) (u:=u) (by omega)
 by_cases e:jg xs u=k
 ·rw[←e];exact h1
 ·have:=s (jg xs u) k (by omega) hk;omega
theorem adx (i j:Nat) (hi:i≤200) (hj:j≤200):IntKind.i64.wrap (aj .shr .u64 (IntKind.u64.wrap (aj .add .i64 (i:Int) (j:Int))) 1)=(((i+j) / 2:Nat):Int):=by
 have e1:aj .add .i64 (i:Int) (j:Int)=((i+j:Nat):Int):=by rw[dX,aT (by omega) (by omega)];omega
 rw[e1,dP (by omega) (by omega)]
 have e2:aj .shr .u64 ((i+j:Nat):Int) 1=(((i+j) / 2:Nat):Int):=by
  have:∀ m:Nat,m≤400→aj .shr .u64 (m:Int) 1=((m / 2:Nat):Int):=by decide +kernel
  exact this _ (by omega)
 rw[e2,aT (by omega) (by omega)]
theorem Rf (xs:List Int) (u:Int) (s:srt xs) (hl:xs.length≤200):∀ (d i j:Nat),j - i≤d→i≤jg xs u→jg xs u≤j→j≤xs.length→
  Runs Try.prog (CallsD Try.prog) (.rounds (af Try.prog 26 0)) (Q5 xs u 0 false xs.length i j).abs (.exit 0) (Q5 xs u 0 false xs.length (jg xs u) (jg xs u)).abs
 |d,i,j,hd,h1,h2,h3=>by
  by_cases e:i<j
  ·have c0:IntKind.i64.wrap (qQ i j)=(((i+j) / 2:Nat):Int):=adx i j (by omega) (by omega)
   have c4:Qe xs i j=false:=by unfold Qe;rw[aY]
   have c1:Ej i j=(((i+j) / 2+1:Nat):Int):=by unfold Ej;rw[c0,dX,aT (by omega) (by omega)];omega
   have c3:JY xs u i j=ai .lss (xs.getD ((i+j) / 2) 0) u:=by unfold JY;rw[c0,Int.toNat_natCast]
   have bm:(i+j) / 2<xs.length:=by omega
   refine NT xs u 0 false xs.length i j _ _ ?_ ?_ ?_ ?_ ?_ ?_<;>dsimp only[At,Tr.q,RG,xJ]
   ·intro _ g;rw[c4] at g;cases g
   ·intro _ g;rw[c4] at g;cases g
   ·intro _ g;rw[c4] at g;cases g
   ·intro _ _ g
    rw[c3,aQ] at g
    rw[c0,c1]
    have hk:(i+j) / 2<jg xs u:=by
     by_cases q:jg xs u≤(i+j) / 2
     ·exact absurd g (Zz s q bm)
     ·omega
    exact⟨⟨(ay bm).1,(ay bm).2,trivial⟩,Rf xs u s hl (j - ((i+j) / 2+1)) ((i+j) / 2+1) j (Nat.le_refl _) (by omega) h2 h3⟩
   ·intro _ _ g
    rw[c3,aX] at g
    unfold P9
    rw[c0]
    have hk:jg xs u≤(i+j) / 2:=by
     by_cases q:(i+j) / 2<jg xs u
     ·have:=YE q;omega
     ·omega
    exact⟨⟨(ay bm).1,(ay bm).2,trivial⟩,Rf xs u s hl ((i+j) / 2 - i) i ((i+j) / 2) (Nat.le_refl _) h1 hk (by omega)⟩
   ·intro g;rw[aX] at g;omega
  ·have ei:i=jg xs u:=by omega
   have ej:j=jg xs u:=by omega
   rw[ei,ej]
   refine NT xs u 0 false xs.length (jg xs u) (jg xs u) _ _ ?_ ?_ ?_ ?_ ?_ ?_<;>dsimp only[At,Tr.q,RG,xJ]
   ·intro g;rw[aQ] at g;omega
   ·intro g;rw[aQ] at g;omega
   ·intro g;rw[aQ] at g;omega
   ·intro g;rw[aQ] at g;omega
   ·intro g;rw[aQ] at g;omega
   ·intro _;exact⟨trivial,rfl,rfl⟩
termination_by d i j=>j - i
theorem ahC (xs:List Int) (u:Int) (h:srt xs∧xs.length≤200):CallsD Try.prog 26 [ru xs,u32 u] (.bF [i64 (jg xs u),bo (decide (jg xs u<xs.length∧xs.getD (jg xs u) 0=u))]):=by
 obtain⟨s,hl⟩:=h
 have run:=ak (Rf xs u s hl xs.length 0 xs.length (by omega) (by omega) (NK xs u) (Nat.le_refl _))
 refine Vh xs u (jg xs u) (jg xs u) _ ?_ ?_ ?_ ?_<;>dsimp only[At,Tr.q,I4]
 ·intro g g2
  rw[aQ] at g
  have g3:jg xs u<xs.length:=by omega
  rw[Int.toNat_natCast,iM] at g2
  exact⟨⟨(ay g3).1,(ay g3).2,run,trivial⟩,by rw[decide_eq_true ⟨g3,g2⟩]⟩
 ·intro _ _ g;rw[show ai .neq (xs.getD (jg xs u:Int).toNat 0) (xs.getD (jg xs u:Int).toNat 0)=false by rw[aY]] at g;cases g
 ·intro g g2 _
  rw[aQ] at g
  have g3:jg xs u<xs.length:=by omega
  rw[Int.toNat_natCast,je] at g2
  exact⟨⟨(ay g3).1,(ay g3).2,(ay g3).1,(ay g3).2,run,trivial⟩,by rw[decide_eq_false (fun n=>g2 n.2)]⟩
 ·intro g
  rw[aX] at g
  exact⟨⟨run,trivial⟩,by rw[decide_eq_false (fun n=>by omega)]⟩
def xiN (xs:List Int) (u:Int):Int:=gJ (fun i=>u ==xs.getD i 0) xs.length 0
theorem ahF (xs:List Int) (n:Int) (h:xs.length≤200):CallsD Try.prog 53 [ru xs,u32 n] (i64 (xiN xs n)):=by
 refine fF (b:=af Try.prog 53 0) (fun i=>LC xs n 0 xs.length (i:Int)) xs.length (fun i=>n ==xs.getD i 0) (fun v=>CallsD Try.prog 53 [ru xs,u32 n] (i64 v)) ?_ ?_ ?_
 ·intro i hi hp σ e hr
  refine Du xs n 0 xs.length i σ e ?_ ?_ ?_<;>dsimp only[At,Tr.q,RG,OU]
  ·intro _ g;rw[Int.toNat_natCast,iM] at g;rw[g] at hp;simp at hp
  ·intro _ _;rw[dF hi h];exact⟨⟨(ay hi).1,(ay hi).2,trivial⟩,hr⟩
  ·intro g;rw[aX] at g;omega
 ·intro hr
  refine Vz xs n 0 xs.length xs.length _ ⟨⟨ak (hr _ _ (Du xs n 0 xs.length xs.length _ _ ?_ ?_ ?_)),trivial⟩,rfl⟩
  ·intro g;rw[aQ] at g;omega
  ·intro g;rw[aQ] at g;omega
  ·intro _;exact⟨trivial,rfl,rfl⟩
 ·intro j hj hp hr
  refine VD xs n j xs.length j _ ⟨⟨ak (hr _ _ (Du xs n 0 xs.length j _ _ ?_ ?_ ?_)),trivial⟩,rfl⟩
  ·intro _ _;exact⟨⟨(ay hj).1,(ay hj).2,trivial⟩,rfl,rfl⟩
  ·intro _ g;rw[Int.toNat_natCast,je] at g;simp at hp;exact absurd hp g
  ·intro g;rw[aX] at g;omega
def bsC:List D→Option (D×List Prop)
 |[.rc [.ints .u32 xs], .v (.int .u32 u)]=>some ((.bF [i64 (jg xs u),bo (decide (jg xs u<xs.length∧xs.getD (jg xs u) 0=u))]),[srt xs∧xs.length≤200])
 |_=>none
theorem Xa (args res l) (h:bsC args=some (res,l)) (hl:aI l):CallsD Try.prog 26 args res:=by
 unfold bsC at h;split at h
 ·simp only[Option.some.injEq,Prod.mk.injEq] at h
  obtain⟨rfl,rfl⟩:=h;obtain⟨h0,_⟩:=hl
  exact ahC _ _ h0
 ·cases h
def xiC:List D→Option (D×List Prop)
 |[.rc [.ints .u32 xs], .v (.int .u32 u)]=>some (i64 (xiN xs u),[xs.length≤200])
 |_=>none
theorem Yi (args res l) (h:xiC args=some (res,l)) (hl:aI l):CallsD Try.prog 53 args res:=by
 unfold xiC at h;split at h
 ·simp only[Option.some.injEq,Prod.mk.injEq] at h
  obtain⟨rfl,rfl⟩:=h;obtain⟨h0,_⟩:=hl
  exact ahF _ _ h0
 ·cases h
end TableS
end

section
namespace TableS
open Go Go.Dam Go.Proofs
set_option maxRecDepth 1000000
noncomputable def VO (b0:Int) (r0:Int) (p0:Int) (b1:Int) (r1:Int) (p1:Int) (b2:Int) (r2:Int) (p2:Int):Tr D:= .p (.u) (.p (.c 0) (.d (ai .neq (iV b0 r0 p0) 0) (fun e0=> .lf (bo false)) (fun e0=> .p (.c 0) (.d (ai .neq (iV b1 r1 p1) 0) (fun e1=> .lf (bo false)) (fun e1=> .p (.c 0) (.d (ai .neq (iV b2 r2 p2) 0) (fun e2=> .lf (bo false)) (fun e2=> .p (.c 0) (.lf (bo true)))))))))
theorem ajy (b0 r0 p0 b1 r1 p1 b2 r2 p2:Int):Leaves (fun l=>cu Try.prog (X9) 100000 l 18 [uI b0 r0 p0 b1 r1 p1 b2 r2 p2]) (VO b0 r0 p0 b1 r1 p1 b2 r2 p2) [] []:=by refine⟨fun _=>?_,fun _=>⟨fun _=>?_,fun _=>⟨fun _=>?_,fun _=>?_⟩⟩⟩<;>(show _=_;kernel_rfl)
theorem Zk (b0 r0 p0 b1 r1 p1 b2 r2 p2:Int) (res:D) (h0:At (fun r=>res=r) (VO b0 r0 p0 b1 r1 p1 b2 r2 p2) [true] True) (h1:At (fun r=>res=r) (VO b0 r0 p0 b1 r1 p1 b2 r2 p2) [false,true] True) (h2:At (fun r=>res=r) (VO b0 r0 p0 b1 r1 p1 b2 r2 p2) [false,false,true] True) (h3:At (fun r=>res=r) (VO b0 r0 p0 b1 r1 p1 b2 r2 p2) [false,false,false] True):CallsD Try.prog 18 [uI b0 r0 p0 b1 r1 p1 b2 r2 p2] res:=au (LX) (ajy b0 r0 p0 b1 r1 p1 b2 r2 p2) ⟨fun e0=>h0 e0,fun e0=>⟨fun e1=>h1 e0 e1,fun e1=>⟨fun e2=>h2 e0 e1 e2,fun e2=>h3 e0 e1 e2⟩⟩⟩
noncomputable def VZ (b0:Int) (r0:Int) (p0:Int) (b1:Int) (r1:Int) (p1:Int) (b2:Int) (r2:Int) (p2:Int):Tr D:= .p (.u) (.p (.c 0) (.d (ai .neq (iV b0 r0 p0) 0) (fun e0=> .lf (bo false)) (fun e0=> .p (.c 0) (.d (ai .neq (iV b1 r1 p1) 0) (fun e1=> .lf (bo false)) (fun e1=> .p (.c 0) (.d (ai .neq (iV b2 r2 p2) 0) (fun e2=> .lf (bo false)) (fun e2=> .p (.c 0) (.lf (bo true)))))))))
theorem akj (b0 r0 p0 b1 r1 p1 b2 r2 p2:Int):Leaves (fun l=>cu Try.prog (X9) 100000 l 23 [uI b0 r0 p0 b1 r1 p1 b2 r2 p2]) (VZ b0 r0 p0 b1 r1 p1 b2 r2 p2) [] []:=by refine⟨fun _=>?_,fun _=>⟨fun _=>?_,fun _=>⟨fun _=>?_,fun _=>?_⟩⟩⟩<;>(show _=_;kernel_rfl)
theorem ZE (b0 r0 p0 b1 r1 p1 b2 r2 p2:Int) (res:D) (h0:At (fun r=>res=r) (VZ b0 r0 p0 b1 r1 p1 b2 r2 p2) [true] True) (h1:At (fun r=>res=r) (VZ b0 r0 p0 b1 r1 p1 b2 r2 p2) [false,true] True) (h2:At (fun r=>res=r) (VZ b0 r0 p0 b1 r1 p1 b2 r2 p2) [false,false,true] True) (h3:At (fun r=>res=r) (VZ b0 r0 p0 b1 r1 p1 b2 r2 p2) [false,false,false] True):CallsD Try.prog 23 [uI b0 r0 p0 b1 r1 p1 b2 r2 p2] res:=au (LX) (akj b0 r0 p0 b1 r1 p1 b2 r2 p2) ⟨fun e0=>h0 e0,fun e0=>⟨fun e1=>h1 e0 e1,fun e1=>⟨fun e2=>h2 e0 e1 e2,fun e2=>h3 e0 e1 e2⟩⟩⟩
def mQ (b0 r0 p0 b1 r1 p1 b2 r2 p2:Int):Bool:=decide (iV b0 r0 p0=0) && (decide (iV b1 r1 p1=0) && decide (iV b2 r2 p2=0))
theorem ah1 (b0 r0 p0 b1 r1 p1 b2 r2 p2:Int):CallsD Try.prog 18 [uI b0 r0 p0 b1 r1 p1 b2 r2 p2] (bo (mQ b0 r0 p0 b1 r1 p1 b2 r2 p2)):=by
 unfold mQ
 refine Zk b0 r0 p0 b1 r1 p1 b2 r2 p2 _ ?_ ?_ ?_ ?_<;>dsimp only[At,Tr.q,VO]
 ·intro g;rw[aP] at g;exact⟨trivial,by rw[decide_eq_false g];rfl⟩
 ·intro g g1;rw[aY] at g;rw[aP] at g1;exact⟨trivial,by rw[decide_eq_true g,decide_eq_false g1];rfl⟩
 ·intro g g1 g2;rw[aY] at g g1;rw[aP] at g2;exact⟨trivial,by rw[decide_eq_true g,decide_eq_true g1,decide_eq_false g2];rfl⟩
 ·intro g g1 g2;rw[aY] at g g1 g2;exact⟨trivial,by rw[decide_eq_true g,decide_eq_true g1,decide_eq_true g2];rfl⟩
theorem aho (b0 r0 p0 b1 r1 p1 b2 r2 p2:Int):CallsD Try.prog 23 [uI b0 r0 p0 b1 r1 p1 b2 r2 p2] (bo (mQ b0 r0 p0 b1 r1 p1 b2 r2 p2)):=by
 unfold mQ
 refine ZE b0 r0 p0 b1 r1 p1 b2 r2 p2 _ ?_ ?_ ?_ ?_<;>dsimp only[At,Tr.q,VZ]
 ·intro g;rw[aP] at g;exact⟨trivial,by rw[decide_eq_false g];rfl⟩
 ·intro g g1;rw[aY] at g;rw[aP] at g1;exact⟨trivial,by rw[decide_eq_true g,decide_eq_false g1];rfl⟩
 ·intro g g1 g2;rw[aY] at g g1;rw[aP] at g2;exact⟨trivial,by rw[decide_eq_true g,decide_eq_true g1,decide_eq_false g2];rfl⟩
 ·intro g g1 g2;rw[aY] at g g1 g2;exact⟨trivial,by rw[decide_eq_true g,decide_eq_true g1,decide_eq_true g2];rfl⟩
def vaC:List D→Option (D×List Prop)
 |[.agg [.v (.int .i64 b0), .v (.int .i64 r0), .v (.int .i64 p0), .v (.int .i64 b1), .v (.int .i64 r1), .v (.int .i64 p1), .v (.int .i64 b2), .v (.int .i64 r2), .v (.int .i64 p2)]]=>some (bo (mQ b0 r0 p0 b1 r1 p1 b2 r2 p2),[])
 |_=>none
theorem XE (args res l) (h:vaC args=some (res,l)) (hl:aI l):CallsD Try.prog 18 args res:=by
 unfold vaC at h;split at h
 ·simp only[Option.some.injEq,Prod.mk.injEq] at h
  obtain⟨rfl,rfl⟩:=h
  exact ah1 _ _ _ _ _ _ _ _ _
 ·cases h
theorem Y1 (args res l) (h:vaC args=some (res,l)) (hl:aI l):CallsD Try.prog 23 args res:=by
 unfold vaC at h;split at h
 ·simp only[Option.some.injEq,Prod.mk.injEq] at h
  obtain⟨rfl,rfl⟩:=h
  exact aho _ _ _ _ _ _ _ _ _
 ·cases h
noncomputable def Pt.b (Q:Pt):BX:=BX.cells [u32 Q.te,i64 Q.b0,i64 Q.r0,i64 Q.p0,i64 Q.b1,i64 Q.r1,i64 Q.p1,i64 Q.b2,i64 Q.r2,i64 Q.p2,i64 Q.ob,i64 Q.orr,i64 Q.op,i64 Q.ov,i64 Q.oq,u64 Q.oa,
 i64 Q.U.n,ru Q.U.ks,kr Q.U.x1 Q.U.x2 Q.U.x3 Q.U.x4 Q.U.x5 Q.U.x6,ri Q.U.nx,rb Q.U.us,i64 Q.U.fr,cc Q.U.kx Q.U.px Q.U.ux,ri Q.U.ps,ri Q.U.no,i64 Q.U.h,i64 Q.U.t,
 i64 Q.E.n,ru Q.E.ks,kr Q.E.x1 Q.E.x2 Q.E.x3 Q.E.x4 Q.E.x5 Q.E.x6,ri Q.E.nx,rb Q.E.us,i64 Q.E.fr,cc Q.E.kx Q.E.px Q.E.ux,ri Q.E.ps,ri Q.E.no,i64 Q.E.h,i64 Q.E.t,
 ru Q.rv,u64 Q.ta,u64 Q.tl,u64 Q.tc] false
noncomputable def Ls (Q:Pt) (u:Int) (o:Bool) (i:Int):Cs:=⟨TT.of [(1,u32 u),(2,D.ptr 64 0),(4,bo o),(5,i64 i)],20,[],[(64,Q.b)],none,0⟩
noncomputable def pV (T:Tb) (b r p m:Int) (o:Bool) (i:Int):Cs:=⟨TT.of [(2,u32 m),(3,D.ptr 96 0),(4,D.ptr 128 0),(6,bo o),(7,i64 i)],39,[],[(96,T.b),(128,BX.cells [i64 b,i64 r,i64 p] false)],none,0⟩
end TableS
end

section
namespace TableS
open Go Go.Dam Go.Proofs
set_option maxRecDepth 1000000
noncomputable def Oa (Q:Pt) (u:Int) (o:Bool) (i:Int):Tr (Ex×Cs):= .d (ai .lss i ↑(Q.rv.length)) (fun e0=> .s (decide (i< ↑(Q.rv.length))=true) (.s (decide (0≤i)=true) (.d (ai .eql (Q.rv.getD i.toNat 0) u) (fun e1=> .lf (Ex.ret,(Ls Q (u) (true) (i)))) (fun e1=> .lf (Ex.normal,(Ls Q (u) (o) (aj .add .i64 i 1))))))) (fun e0=> .lf (Ex.exit 0,(Ls Q (u) (o) (i))))
theorem ain (Q:Pt) (u:Int) (o:Bool) (i:Int):Leaves (bT Try.prog (X9) 100000 (af Try.prog 29 0) [[1,2,4,5]] [(64,64)] (Ls Q u o i)) (Oa Q u o i) [] []:=by refine⟨fun _=>⟨fun _=>?_,fun _=>?_⟩,fun _=>?_⟩<;>(show _=_;kernel_rfl)
theorem FC (Q:Pt) (u:Int) (o:Bool) (i:Int) (σ:St) (e:Ex) (h0:At (RG Try.prog (af Try.prog 29 0) e σ) (Oa Q u o i) [true,true] True) (h1:At (RG Try.prog (af Try.prog 29 0) e σ) (Oa Q u o i) [true,false] True) (h2:At (RG Try.prog (af Try.prog 29 0) e σ) (Oa Q u o i) [false] True):Runs Try.prog (CallsD Try.prog) (.rounds (af Try.prog 29 0)) (Ls Q u o i).abs e σ:=aO (LX) (ain Q u o i) ⟨fun e0=>⟨fun e1=>h0 e0 e1,fun e1=>h1 e0 e1⟩,fun e0=>h2 e0⟩
noncomputable def acu (Q:Pt) (u:Int) (i:Int):Tr D:= .p (.l [[1,2,4,5]] [(64,64)] (Ls Q u false 0) (Ex.exit 0) (Ls Q u false i)) (.s (Runs Try.prog (CallsD Try.prog) (.code (.loop (af Try.prog 29 0))) (Ls Q u false 0).abs (Ex.exit 0) (Ls Q u false i).abs) (.k ((Ls Q u false 0=Ls Q u false 0)) rfl (.lf (bo false))))
theorem agZ (Q:Pt) (u i:Int):Leaves (fun l=>cu Try.prog (X9) 100000 l 29 [Q.d,u32 u]) (acu Q u i) [] []:=by show _=_;kernel_rfl
theorem UG (Q:Pt) (u i:Int) (res:D) (h0:At (fun r=>res=r) (acu Q u i) [] True):CallsD Try.prog 29 [Q.d,u32 u] res:=au (LX) (agZ Q u i) h0
noncomputable def adg (Q:Pt) (u:Int) (i:Int):Tr D:= .p (.l [[1,2,4,5]] [(64,64)] (Ls Q u false 0) Ex.ret (Ls Q u true i)) (.s (Runs Try.prog (CallsD Try.prog) (.code (.loop (af Try.prog 29 0))) (Ls Q u false 0).abs (Ex.ret) (Ls Q u true i).abs) (.k ((Ls Q u false 0=Ls Q u false 0)) rfl (.lf (bo true))))
theorem ahu (Q:Pt) (u i:Int):Leaves (fun l=>cu Try.prog (X9) 100000 l 29 [Q.d,u32 u]) (adg Q u i) [] []:=by show _=_;kernel_rfl
theorem VU (Q:Pt) (u i:Int) (res:D) (h0:At (fun r=>res=r) (adg Q u i) [] True):CallsD Try.prog 29 [Q.d,u32 u] res:=au (LX) (ahu Q u i) h0
noncomputable def Cb (T:Tb) (b r p m:Int) (o:Bool) (i:Int):=pV T (b) (r) (p) (m) (o) (aj .add .i64 i 1)
noncomputable def KH (T:Tb) (r p i:Int):=T.x2.getD i.toNat 0 ==r && (T.x3.getD i.toNat 0 ==p && true)
noncomputable def vV (T:Tb) (b:Int) (r:Int) (p:Int) (m:Int) (o:Bool) (i:Int):Tr (Ex×Cs):= .d (ai .lss i T.n) (fun e0=> .s (decide (i< ↑(T.us.length))=true) (.s (decide (0≤i)=true) (.d (T.us.getD i.toNat false) (fun e1=> .p (.c 7) (.s (decide (i< ↑(T.x1.length))=true) (.s (decide (0≤i)=true) (.d (!(T.x1.getD i.toNat 0 ==b && (KH T r p i))) (fun e2=> .p (.c 7) (.lf (Ex.ret,(pV T (b) (r) (p) (m) (false) (i))))) (fun e2=> .p (.c 6) (.s (decide (i< ↑(T.ks.length))=true) (.s (decide (0≤i)=true) (.d (ai .gtr (T.ks.getD i.toNat 0) m) (fun e3=> .lf (Ex.ret,(pV T (b) (r) (p) (m) (false) (i)))) (fun e3=> .lf (Ex.normal,(Cb T b r p m o i))))))))))) (fun e1=> .p (.c 9) (.lf (Ex.normal,(Cb T b r p m o i))))))) (fun e0=> .lf (Ex.exit 0,(pV T (b) (r) (p) (m) (o) (i))))
theorem afB (T:Tb) (b r p m:Int) (o:Bool) (i:Int):Leaves (bT Try.prog (X9) 100000 (af Try.prog 45 0) [[2,3,4,6,7]] [(96,96),(128,128)] (pV T b r p m o i)) (vV T b r p m o i) [] []:=by refine⟨fun _=>⟨fun _=>⟨fun _=>?_,fun _=>⟨fun _=>?_,fun _=>?_⟩⟩,fun _=>?_⟩,fun _=>?_⟩<;>(show _=_;kernel_rfl)
theorem zK (T:Tb) (b:Int) (r:Int) (p:Int) (m:Int) (o:Bool) (i:Int) (σ:St) (e:Ex) (h0:At (RG Try.prog (af Try.prog 45 0) e σ) (vV T b r p m o i) [true,true,true] True) (h1:At (RG Try.prog (af Try.prog 45 0) e σ) (vV T b r p m o i) [true,true,false,true] True) (h2:At (RG Try.prog (af Try.prog 45 0) e σ) (vV T b r p m o i) [true,true,false,false] True) (h3:At (RG Try.prog (af Try.prog 45 0) e σ) (vV T b r p m o i) [true,false] True) (h4:At (RG Try.prog (af Try.prog 45 0) e σ) (vV T b r p m o i) [false] True):Runs Try.prog (CallsD Try.prog) (.rounds (af Try.prog 45 0)) (pV T b r p m o i).abs e σ:=aO (LX) (afB T b r p m o i) ⟨fun e0=>⟨fun e1=>⟨fun e2=>h0 e0 e1 e2,fun e2=>⟨fun e3=>h1 e0 e1 e2 e3,fun e3=>h2 e0 e1 e2 e3⟩⟩,fun e1=>h3 e0 e1⟩,fun e0=>h4 e0⟩
noncomputable def Yb (T:Tb) (b:Int) (r:Int) (p:Int) (m:Int) (i:Int):Tr D:= .p (.l [[2,3,4,6,7]] [(96,96),(128,128)] (pV T b r p m false 0) (Ex.exit 0) (pV T b r p m false i)) (.s (Runs Try.prog (CallsD Try.prog) (.code (.loop (af Try.prog 45 0))) (pV T b r p m false 0).abs (Ex.exit 0) (pV T b r p m false i).abs) (.k ((pV T b r p m false 0=pV T b r p m false 0)) rfl (.lf (bo true))))
theorem afg (T:Tb) (b r p m i:Int):Leaves (fun l=>cu Try.prog (X9) 100000 l 45 [T.d,D.agg [i64 b,i64 r,i64 p],u32 m]) (Yb T b r p m i) [] []:=by show _=_;kernel_rfl
theorem QM (T:Tb) (b r p m i:Int) (res:D) (h0:At (fun r=>res=r) (Yb T b r p m i) [] True):CallsD Try.prog 45 [T.d,D.agg [i64 b,i64 r,i64 p],u32 m] res:=au (LX) (afg T b r p m i) h0
noncomputable def Y8 (T:Tb) (b:Int) (r:Int) (p:Int) (m:Int) (i:Int):Tr D:= .p (.l [[2,3,4,6,7]] [(96,96),(128,128)] (pV T b r p m false 0) Ex.ret (pV T b r p m false i)) (.s (Runs Try.prog (CallsD Try.prog) (.code (.loop (af Try.prog 45 0))) (pV T b r p m false 0).abs (Ex.ret) (pV T b r p m false i).abs) (.k ((pV T b r p m false 0=pV T b r p m false 0)) rfl (.lf (bo false))))
theorem afv (T:Tb) (b r p m i:Int):Leaves (fun l=>cu Try.prog (X9) 100000 l 45 [T.d,D.agg [i64 b,i64 r,i64 p],u32 m]) (Y8 T b r p m i) [] []:=by show _=_;kernel_rfl
theorem O1 (T:Tb) (b r p m i:Int) (res:D) (h0:At (fun r=>res=r) (Y8 T b r p m i) [] True):CallsD Try.prog 45 [T.d,D.agg [i64 b,i64 r,i64 p],u32 m] res:=au (LX) (afv T b r p m i) h0
def isB (xs:List Int) (u:Int):Bool:=!decide (gJ (fun i=>xs.getD i 0 ==u) xs.length 0<0)
theorem agL (Q:Pt) (u:Int) (h:Q.rv.length≤200):CallsD Try.prog 29 [Q.d,u32 u] (bo (isB Q.rv u)):=by
 refine fF (b:=af Try.prog 29 0) (fun i=>Ls Q u false (i:Int)) Q.rv.length (fun i=>Q.rv.getD i 0 ==u) (fun v=>CallsD Try.prog 29 [Q.d,u32 u] (bo (!decide (v<0)))) ?_ ?_ ?_
 ·intro i hi hp σ e hr
  refine FC Q u false i σ e ?_ ?_ ?_<;>dsimp only[At,Tr.q,RG,Oa]
  ·intro _ g;rw[Int.toNat_natCast,iM] at g;rw[g] at hp;simp at hp
  ·intro _ _;rw[dF hi h];exact⟨⟨(ay hi).1,(ay hi).2,trivial⟩,hr⟩
  ·intro g;rw[aX] at g;omega
 ·intro hr
  refine UG Q u Q.rv.length _ ⟨⟨ak (hr _ _ (FC Q u false Q.rv.length _ _ ?_ ?_ ?_)),trivial⟩,rfl⟩
  ·intro g;rw[aQ] at g;omega
  ·intro g;rw[aQ] at g;omega
  ·intro _;exact⟨trivial,rfl,rfl⟩
 ·intro j hj hp hr
  refine VU Q u j _ ⟨⟨ak (hr _ _ (FC Q u false j _ _ ?_ ?_ ?_)),trivial⟩,by simp⟩
  ·intro _ _;exact⟨⟨(ay hj).1,(ay hj).2,trivial⟩,rfl,rfl⟩
  ·intro _ g;rw[Int.toNat_natCast,je] at g;simp at hp;exact absurd hp g
  ·intro g;rw[aX] at g;omega
def odd (T:Tb) (b r p m:Int) (i:Nat):Bool:=T.us.getD i false && ((!(T.x1.getD i 0 ==b && (T.x2.getD i 0 ==r && (T.x3.getD i 0 ==p && true)))) || ai .gtr (T.ks.getD i 0) m)
def Wq (T:Tb) (b r p m:Int):Bool:=decide (gJ (odd T b r p m) T.us.length 0<0)
def ZU (T:Tb):Prop:=T.us.length≤200∧(T.us.length:Int)=T.n∧T.x1.length=T.us.length∧T.ks.length=T.us.length
theorem adl (T:Tb) (b r p m:Int) (h:ZU T):CallsD Try.prog 45 [T.d, .agg [i64 b,i64 r,i64 p],u32 m] (bo (Wq T b r p m)):=by
 obtain⟨h1,h2,h3,h4⟩:=h
 refine fF (b:=af Try.prog 45 0) (fun i=>pV T b r p m false (i:Int)) T.us.length (odd T b r p m) (fun v=>CallsD Try.prog 45 [T.d, .agg [i64 b,i64 r,i64 p],u32 m] (bo (decide (v<0)))) ?_ ?_ ?_
 ·intro i hi hp σ e hr
  have ix:i<T.x1.length:=by omega
  have ik:i<T.ks.length:=by omega
  have ti:((i:Nat):Int).toNat=i:=Int.toNat_natCast i
  rw[←dF hi h1] at hr
  refine zK T b r p m false i σ e ?_ ?_ ?_ ?_ ?_<;>dsimp only[At,Tr.q,RG,vV]
  all_goals try simp only[ti]
  ·intro _ g1 g2
   unfold odd at hp;rw[g1] at hp
   have g3:(!(T.x1.getD i 0 ==b && (T.x2.getD i 0 ==r && (T.x3.getD i 0 ==p && true))))=true:=by have:=g2;simpa only[KH,Cb,ti] using this
   rw[g3] at hp;simp at hp
  ·intro _ g1 g2 g3
   unfold odd at hp;rw[g1,g3] at hp;simp at hp
  ·intro _ _ _ _;exact⟨by(repeat' apply And.intro)<;>first | exact trivial | exact(ay hi).1 | exact(ay hi).2 | exact(ay ix).1 | exact(ay ix).2 | exact(ay ik).2,hr⟩
  ·intro _ _;exact⟨by(repeat' apply And.intro)<;>first | exact trivial | exact(ay hi).1 | exact(ay hi).2,hr⟩
  ·intro g;rw[aX] at g;omega
 ·intro hr
  refine QM T b r p m T.us.length _ ⟨⟨ak (hr _ _ (zK T b r p m false T.us.length _ _ ?_ ?_ ?_ ?_ ?_)),trivial⟩,rfl⟩
  ·intro g;rw[aQ] at g;omega
  ·intro g;rw[aQ] at g;omega
  ·intro g;rw[aQ] at g;omega
  ·intro g;rw[aQ] at g;omega
  ·intro _;exact⟨trivial,rfl,rfl⟩
 ·intro j hj hp hr
  have ix:j<T.x1.length:=by omega
  have ik:j<T.ks.length:=by omega
  have ti:((j:Nat):Int).toNat=j:=Int.toNat_natCast j
  refine O1 T b r p m j _ ⟨⟨ak (hr _ _ (zK T b r p m false j _ _ ?_ ?_ ?_ ?_ ?_)),trivial⟩,by rw[decide_eq_false (by omega)]⟩
  all_goals try simp only[ti]
  ·intro _ _ _;exact⟨by(repeat' apply And.intro)<;>first | exact trivial | exact(ay hj).1 | exact(ay hj).2 | exact(ay ix).1 | exact(ay ix).2 | exact(ay ik).2,rfl,rfl⟩
  ·intro _ _ _ _;exact⟨by(repeat' apply And.intro)<;>first | exact trivial | exact(ay hj).1 | exact(ay hj).2 | exact(ay ix).1 | exact(ay ix).2 | exact(ay ik).2,rfl,rfl⟩
  ·intro _ g1 g2 g3
   exfalso
   rw[ti] at g1 g3
   unfold odd at hp;rw[g1,g3] at hp
   have g4:(!(T.x1.getD j 0 ==b && (T.x2.getD j 0 ==r && (T.x3.getD j 0 ==p && true))))=false:=by have:=g2;simpa only[KH,Cb,ti] using this
   rw[g4] at hp;simp at hp
  ·intro _ g1
   exfalso
   rw[ti] at g1
   unfold odd at hp;rw[g1] at hp;simp at hp
  ·intro g;rw[aX] at g;omega
end TableS
end

section
namespace TableS
open Go Go.Dam Go.Proofs
set_option maxRecDepth 1000000
noncomputable def Jo (T:Tb) (u:Int) (m:Nat) (g i:Int) (l:List Int):=kS T (8) (aj .add .i64 u 1) (m) (g) (i) (l)
noncomputable def KX (T:Tb) (i:Int):=ai .neq (U4 T.kx T.px T.ux (T.ks.getD i.toNat 0)) 0
noncomputable def JU (T:Tb) (i:Int):=ai .neq (U3 T.kx T.px T.ux (T.ks.getD i.toNat 0)) i
noncomputable def Sj (T:Tb) (i:Int):=T.x2.getD i.toNat 0 ==0 && (T.x3.getD i.toNat 0 ==0 && true)
noncomputable def TV (T:Tb) (i:Int):=T.x5.getD i.toNat 0 ==0 && (T.x6.getD i.toNat 0 ==0 && true)
noncomputable def KP (T:Tb) (i:Int):=T.x1.getD i.toNat 0 ==0 && (Sj T i) && (T.x4.getD i.toNat 0 ==0 && (TV T i))
noncomputable def JE (T:Tb) (i:Int):=wM (T.x1.getD i.toNat 0) (T.x2.getD i.toNat 0) (T.x3.getD i.toNat 0) (T.x4.getD i.toNat 0) (T.x5.getD i.toNat 0)
noncomputable def kY (T:Tb) (o:Int) (u:Int) (m:Nat) (g:Int) (i:Int) (l:List Int):Tr (Ex×Cs):= .d (ai .lss i g) (fun e0=> .s (decide (i<(T.us.length:Int))=true) (.s (decide (0≤i)=true) (.s (l.length≤200) (.s (m=l.length) (.d (!T.us.getD i.toNat false ==inB l i) (fun e1=> .p (.c 3) (.lf (Ex.ret,(kS T (8) (u) (m) (g) (i) (l))))) (fun e1=> .p (.c 1) (.d (!T.us.getD i.toNat false) (fun e2=> .p (.c 5) (.s (decide (i<(T.ks.length:Int))=true) (.s (decide (0≤i)=true) (.d (ai .neq (T.ks.getD i.toNat 0) 0) (fun e3=> .p (.c 8) (.lf (Ex.ret,(kS T (8) (u) (m) (g) (i) (l))))) (fun e3=> .p (.c 7) (.s (decide (i<(T.x1.length:Int))=true) (.s (decide (0≤i)=true) (.d (!(KP T i)) (fun e4=> .lf (Ex.ret,(kS T (8) (u) (m) (g) (i) (l)))) (fun e4=> .p (.d true) (.k _ e2 (.lf (Ex.normal,(kS T (o) (u) (m) (g) (aj .add .i64 i 1) (l)))))))))))))) (fun e2=> .p (.c 8) (.p (.d false) (.k _ e2 (.s (decide (i<(T.ks.length:Int))=true) (.s (decide (0≤i)=true) (.s (okI T.kx∧vk (T.ks.getD i.toNat 0)) (.d (KX T i) (fun e3=> .p (.c 9) (.lf (Ex.ret,(Jo T u m g i l)))) (fun e3=> .p (.c 1) (.d (JU T i) (fun e4=> .p (.c 6) (.lf (Ex.ret,(Jo T u m g i l)))) (fun e4=> .p (.c 5) (.s (decide (i<(T.x1.length:Int))=true) (.s (decide (0≤i)=true) (.s (jV (T.x4.getD i.toNat 0)) (.d (ai .neq (JE T i) 0) (fun e5=> .lf (Ex.ret,(Jo T u m g i l))) (fun e5=> .lf (Ex.normal,(kS T (o) (aj .add .i64 u 1) (m) (g) (aj .add .i64 i 1) (l))))))))))))))))))))))))) (fun e0=> .lf (Ex.exit 0,(kS T (o) (u) (m) (g) (i) (l))))
theorem agh (T:Tb) (o u:Int) (m:Nat) (g i:Int) (l:List Int):Leaves (bT Try.prog (X9) 100000 (af Try.prog 38 0) [[1,2,5,7,68,69,70]] [(32,32),(1952,1952)] (kS T o u m g i l)) (kY T o u m g i l) [] []:=by refine⟨fun _=>⟨fun _=>?_,fun _=>⟨fun _=>⟨fun _=>?_,fun _=>⟨fun _=>?_,fun _=>?_⟩⟩,fun _=>⟨fun _=>?_,fun _=>⟨fun _=>?_,fun _=>⟨fun _=>?_,fun _=>?_⟩⟩⟩⟩⟩,fun _=>?_⟩<;>(show _=_;kernel_rfl)
theorem oI (T:Tb) (o:Int) (u:Int) (m:Nat) (g:Int) (i:Int) (l:List Int) (σ:St) (e:Ex) (h0:At (RG Try.prog (af Try.prog 38 0) e σ) (kY T o u m g i l) [true,true] True) (h1:At (RG Try.prog (af Try.prog 38 0) e σ) (kY T o u m g i l) [true,false,true,true] True) (h2:At (RG Try.prog (af Try.prog 38 0) e σ) (kY T o u m g i l) [true,false,true,false,true] True) (h3:At (RG Try.prog (af Try.prog 38 0) e σ) (kY T o u m g i l) [true,false,true,false,false] True) (h4:At (RG Try.prog (af Try.prog 38 0) e σ) (kY T o u m g i l) [true,false,false,true] True) (h5:At (RG Try.prog (af Try.prog 38 0) e σ) (kY T o u m g i l) [true,false,false,false,true] True) (h6:At (RG Try.prog (af Try.prog 38 0) e σ) (kY T o u m g i l) [true,false,false,false,false,true] True) (h7:At (RG Try.prog (af Try.prog 38 0) e σ) (kY T o u m g i l) [true,false,false,false,false,false] True) (h8:At (RG Try.prog (af Try.prog 38 0) e σ) (kY T o u m g i l) [false] True):Runs Try.prog (CallsD Try.prog) (.rounds (af Try.prog 38 0)) (kS T o u m g i l).abs e σ:=aO (LX) (agh T o u m g i l) ⟨fun e0=>⟨fun e1=>h0 e0 e1,fun e1=>⟨fun e2=>⟨fun e3=>h1 e0 e1 e2 e3,fun e3=>⟨fun e4=>h2 e0 e1 e2 e3 e4,fun e4=>h3 e0 e1 e2 e3 e4⟩⟩,fun e2=>⟨fun e3=>h4 e0 e1 e2 e3,fun e3=>⟨fun e4=>h5 e0 e1 e2 e3 e4,fun e4=>⟨fun e5=>h6 e0 e1 e2 e3 e4 e5,fun e5=>h7 e0 e1 e2 e3 e4 e5⟩⟩⟩⟩⟩,fun e0=>h8 e0⟩
noncomputable def zJ (T:Tb) (o:Int) (u:Int) (g:Int) (i:Int):Tr (Ex×Cs):= .d (ai .lss i g) (fun e0=> .s (decide (i<(T.kx.length:Int))=true) (.s (decide (0≤i)=true) (.d (T.ux.getD i.toNat false) (fun e1=> .lf (Ex.normal,(vX T (o) (aj .sub .i64 u 1) (g) (aj .add .i64 i 1)))) (fun e1=> .lf (Ex.normal,(vX T (o) (u) (g) (aj .add .i64 i 1))))))) (fun e0=> .lf (Ex.exit 2,(vX T (o) (u) (g) (i))))
theorem afK (T:Tb) (o u g i:Int):Leaves (bT Try.prog (X9) 100000 (af Try.prog 38 1) [[2,7,134,135,136]] [] (vX T o u g i)) (zJ T o u g i) [] []:=by refine⟨fun _=>⟨fun _=>?_,fun _=>?_⟩,fun _=>?_⟩<;>(show _=_;kernel_rfl)
theorem IE (T:Tb) (o:Int) (u:Int) (g:Int) (i:Int) (σ:St) (e:Ex) (h0:At (RG Try.prog (af Try.prog 38 1) e σ) (zJ T o u g i) [true,true] True) (h1:At (RG Try.prog (af Try.prog 38 1) e σ) (zJ T o u g i) [true,false] True) (h2:At (RG Try.prog (af Try.prog 38 1) e σ) (zJ T o u g i) [false] True):Runs Try.prog (CallsD Try.prog) (.rounds (af Try.prog 38 1)) (vX T o u g i).abs e σ:=aO (LX) (afK T o u g i) ⟨fun e0=>⟨fun e1=>h0 e0 e1,fun e1=>h1 e0 e1⟩,fun e0=>h2 e0⟩
noncomputable def nN (T:Tb) (u:Int) (v:Int):Tr D:= .d (ai .lss T.n 1) (fun e0=> .p (.c 16) (.lf (i64 8))) (fun e0=> .p (.c 0) (.d (ai .gtr T.n 8) (fun e1=> .p (.c 14) (.lf (i64 8))) (fun e1=> .p (.c 5) (.d (!((T.ks.length:Int) ==T.n && ((T.x1.length:Int) ==T.n && ((T.nx.length:Int) ==T.n && ((T.ps.length:Int) ==T.n && true))))) (fun e2=> .p (.c 7) (.lf (i64 8))) (fun e2=> .p (.c 2) (.s (T.us.length≤200) (.d (ai .neq (OZ T.nx T.us T.fr) 0) (fun e3=> .p (.c 3) (.lf (i64 8))) (fun e3=> .p (.c 2) (.s (okI T.kx) (.d (ai .neq (BR T.kx T.px T.ux) 0) (fun e4=> .lf (i64 8)) (fun e4=> .d (ai .neq (Eg T.ps T.no T.h T.t) 0) (fun e5=> .lf (i64 8)) (fun e5=> .p (.l [[1,2,5,7,68,69,70]] [(32,32),(1952,1952)] (kS T 0 0 ((qG T.ps T.no T.h T.t).length) ((T.us.length:Int)) 0 (qG T.ps T.no T.h T.t)) (Ex.exit 0) (kS T 0 u ((qG T.ps T.no T.h T.t).length) ((T.us.length:Int)) ((T.us.length:Int)) (qG T.ps T.no T.h T.t))) (.p (.l [[2,7,134,135,136]] [] (vX T 0 u ((T.kx.length:Int)) 0) (Ex.exit 2) (vX T 0 v (T.kx.length:Int) (T.kx.length:Int))) (.s (Runs Try.prog (CallsD Try.prog) (.code (.loop (af Try.prog 38 0))) (kS T 0 0 ((qG T.ps T.no T.h T.t).length) ((T.us.length:Int)) 0 (qG T.ps T.no T.h T.t)).abs (Ex.exit 0) (kS T 0 u ((qG T.ps T.no T.h T.t).length) ((T.us.length:Int)) ((T.us.length:Int)) (qG T.ps T.no T.h T.t)).abs) (.k ((kS T 0 0 ((qG T.ps T.no T.h T.t).length) ((T.us.length:Int)) 0 (qG T.ps T.no T.h T.t)=kS T 0 0 ((qG T.ps T.no T.h T.t).length) ((T.us.length:Int)) 0 (qG T.ps T.no T.h T.t))) rfl (.s (Runs Try.prog (CallsD Try.prog) (.code (.loop (af Try.prog 38 1))) (vX T 0 u ((T.kx.length:Int)) 0).abs (Ex.exit 2) (vX T 0 v (T.kx.length:Int) (T.kx.length:Int)).abs) (.k ((vX T 0 u ((T.kx.length:Int)) 0=vX T 0 u ((T.kx.length:Int)) 0)) rfl (.d (ai .neq v 0) (fun e6=> .lf (i64 8)) (fun e6=> .lf (i64 0))))))))))))))))))))
theorem aea (T:Tb) (u v:Int):Leaves (fun l=>cu Try.prog (X9) 100000 l 38 [T.d]) (nN T u v) [] []:=by refine⟨fun _=>?_,fun _=>⟨fun _=>?_,fun _=>⟨fun _=>?_,fun _=>⟨fun _=>?_,fun _=>⟨fun _=>?_,fun _=>⟨fun _=>?_,fun _=>⟨fun _=>?_,fun _=>?_⟩⟩⟩⟩⟩⟩⟩<;>(show _=_;kernel_rfl)
theorem PX (T:Tb) (u v:Int) (res:D) (h0:At (fun r=>res=r) (nN T u v) [true] True) (h1:At (fun r=>res=r) (nN T u v) [false,true] True) (h2:At (fun r=>res=r) (nN T u v) [false,false,true] True) (h3:At (fun r=>res=r) (nN T u v) [false,false,false,true] True) (h4:At (fun r=>res=r) (nN T u v) [false,false,false,false,true] True) (h5:At (fun r=>res=r) (nN T u v) [false,false,false,false,false,true] True) (h6:At (fun r=>res=r) (nN T u v) [false,false,false,false,false,false,true] True) (h7:At (fun r=>res=r) (nN T u v) [false,false,false,false,false,false,false] True):CallsD Try.prog 38 [T.d] res:=au (LX) (aea T u v) ⟨fun e0=>h0 e0,fun e0=>⟨fun e1=>h1 e0 e1,fun e1=>⟨fun e2=>h2 e0 e1 e2,fun e2=>⟨fun e3=>h3 e0 e1 e2 e3,fun e3=>⟨fun e4=>h4 e0 e1 e2 e3 e4,fun e4=>⟨fun e5=>h5 e0 e1 e2 e3 e4 e5,fun e5=>⟨fun e6=>h6 e0 e1 e2 e3 e4 e5 e6,fun e6=>h7 e0 e1 e2 e3 e4 e5 e6⟩⟩⟩⟩⟩⟩⟩
noncomputable def nU (T:Tb) (o:Int) (u:Int) (i:Int):Tr D:= .d (ai .lss T.n 1) (fun e0=> .p (.c 16) (.lf (i64 8))) (fun e0=> .p (.c 0) (.d (ai .gtr T.n 8) (fun e1=> .p (.c 14) (.lf (i64 8))) (fun e1=> .p (.c 5) (.d (!((T.ks.length:Int) ==T.n && ((T.x1.length:Int) ==T.n && ((T.nx.length:Int) ==T.n && ((T.ps.length:Int) ==T.n && true))))) (fun e2=> .p (.c 7) (.lf (i64 8))) (fun e2=> .p (.c 2) (.s (T.us.length≤200) (.d (ai .neq (OZ T.nx T.us T.fr) 0) (fun e3=> .p (.c 3) (.lf (i64 8))) (fun e3=> .p (.c 2) (.s (okI T.kx) (.d (ai .neq (BR T.kx T.px T.ux) 0) (fun e4=> .lf (i64 8)) (fun e4=> .d (ai .neq (Eg T.ps T.no T.h T.t) 0) (fun e5=> .lf (i64 8)) (fun e5=> .p (.l [[1,2,5,7,68,69,70]] [(32,32),(1952,1952)] (kS T 0 0 ((qG T.ps T.no T.h T.t).length) ((T.us.length:Int)) 0 (qG T.ps T.no T.h T.t)) Ex.ret (kS T o u ((qG T.ps T.no T.h T.t).length) ((T.us.length:Int)) i (qG T.ps T.no T.h T.t))) (.s (Runs Try.prog (CallsD Try.prog) (.code (.loop (af Try.prog 38 0))) (kS T 0 0 ((qG T.ps T.no T.h T.t).length) ((T.us.length:Int)) 0 (qG T.ps T.no T.h T.t)).abs (Ex.ret) (kS T o u ((qG T.ps T.no T.h T.t).length) ((T.us.length:Int)) i (qG T.ps T.no T.h T.t)).abs) (.k ((kS T 0 0 ((qG T.ps T.no T.h T.t).length) ((T.us.length:Int)) 0 (qG T.ps T.no T.h T.t)=kS T 0 0 ((qG T.ps T.no T.h T.t).length) ((T.us.length:Int)) 0 (qG T.ps T.no T.h T.t))) rfl (.lf (i64 o))))))))))))))))
theorem adZ (T:Tb) (o u i:Int):Leaves (fun l=>cu Try.prog (X9) 100000 l 38 [T.d]) (nU T o u i) [] []:=by refine⟨fun _=>?_,fun _=>⟨fun _=>?_,fun _=>⟨fun _=>?_,fun _=>⟨fun _=>?_,fun _=>⟨fun _=>?_,fun _=>⟨fun _=>?_,fun _=>?_⟩⟩⟩⟩⟩⟩<;>(show _=_;kernel_rfl)
theorem DV (T:Tb) (o u i:Int) (res:D) (h0:At (fun r=>res=r) (nU T o u i) [true] True) (h1:At (fun r=>res=r) (nU T o u i) [false,true] True) (h2:At (fun r=>res=r) (nU T o u i) [false,false,true] True) (h3:At (fun r=>res=r) (nU T o u i) [false,false,false,true] True) (h4:At (fun r=>res=r) (nU T o u i) [false,false,false,false,true] True) (h5:At (fun r=>res=r) (nU T o u i) [false,false,false,false,false,true] True) (h6:At (fun r=>res=r) (nU T o u i) [false,false,false,false,false,false] True):CallsD Try.prog 38 [T.d] res:=au (LX) (adZ T o u i) ⟨fun e0=>h0 e0,fun e0=>⟨fun e1=>h1 e0 e1,fun e1=>⟨fun e2=>h2 e0 e1 e2,fun e2=>⟨fun e3=>h3 e0 e1 e2 e3,fun e3=>⟨fun e4=>h4 e0 e1 e2 e3 e4,fun e4=>⟨fun e5=>h5 e0 e1 e2 e3 e4 e5,fun e5=>h6 e0 e1 e2 e3 e4 e5⟩⟩⟩⟩⟩⟩
def z6 (T:Tb) (i:Nat):Bool:=T.x1.getD i 0 ==0 && (T.x2.getD i 0 ==0 && (T.x3.getD i 0 ==0 && (T.x4.getD i 0 ==0 && (T.x5.getD i 0 ==0 && T.x6.getD i 0 ==0))))
def bk6 (T:Tb) (i:Nat):Int:=wM (T.x1.getD i 0) (T.x2.getD i 0) (T.x3.getD i 0) (T.x4.getD i 0) (T.x5.getD i 0)
theorem z17 (T:Tb) (i:Nat):KP T (i:Int)=z6 T i:=by
 unfold KP Sj TV z6;simp only[Int.toNat_natCast,Bool.and_true,Bool.and_assoc]
def nI (T:Tb) (l:List Int) (i:Nat):Bool:=
 (!(T.us.getD i false ==inB l i)) || (if T.us.getD i false=true then decide (U4 T.kx T.px T.ux (T.ks.getD i 0)≠0∨U3 T.kx T.px T.ux (T.ks.getD i 0)≠i∨bk6 T i≠0) else decide (T.ks.getD i 0≠0) || !z6 T i)
def uK (T:Tb):Prop:=okI T.kx∧(∀ i,i<T.ks.length→vk (T.ks.getD i 0))∧(∀ i,i<T.x1.length→jV (T.x4.getD i 0))∧T.nx.length≤200∧T.us.length≤200∧T.no.length≤200∧kcS T.x1 T.x2 T.x3 T.x4 T.x5 T.x6∧ccS T.kx T.px T.ux∧T.ks.length≤200∧T.ps.length≤200
def Tb.sz (T:Tb):Prop:=1≤T.n∧T.n≤8∧(T.ks.length:Int)=T.n∧(T.x1.length:Int)=T.n∧(T.nx.length:Int)=T.n∧(T.ps.length:Int)=T.n
instance (T:Tb):Decidable T.sz:=by unfold Tb.sz;exact inferInstance
def nO (T:Tb):Int:=
 if T.sz∧OZ T.nx T.us T.fr=0∧BR T.kx T.px T.ux=0∧Eg T.ps T.no T.h T.t=0 then
  (if gJ (nI T (qG T.ps T.no T.h T.t)) T.us.length 0<0∧iL T.us.length T.us=iL T.kx.length T.ux then 0 else 8) else 8
theorem sz4 (T:Tb):(!((T.ks.length:Int) ==T.n && ((T.x1.length:Int) ==T.n && ((T.nx.length:Int) ==T.n && ((T.ps.length:Int) ==T.n && true)))))=false↔(T.ks.length:Int)=T.n∧(T.x1.length:Int)=T.n∧(T.nx.length:Int)=T.n∧(T.ps.length:Int)=T.n:=by simp
theorem Jw {nx:List Int} {us:List Bool} {f:Int} (h:OZ nx us f=0):us.length=nx.length:=by
 unfold OZ at h;split at h
 next c=>exact c.2.2
 next=>cases h
theorem Y4 (T:Tb) (u:Nat) (hu:u≤200) (h:T.kx.length≤200):
  Runs Try.prog (CallsD Try.prog) (.code (.loop (af Try.prog 38 1))) (vX T 0 u T.kx.length 0).abs (.exit 2) (vX T 0 ((u:Int) - iL T.kx.length T.ux) T.kx.length T.kx.length).abs:=by
 refine ak ?_
 have z:=dS (P:=Try.prog) (F:=CallsD Try.prog) (b:=af Try.prog 38 1) (fun i=>vX T 0 ((u:Int) - iL i T.ux) T.kx.length (i:Int)) T.kx.length (fun _=>True) (fun i hi _ σ e hr=>?_)
  (σ:=(vX T 0 ((u:Int) - iL T.kx.length T.ux) T.kx.length T.kx.length).abs) (e:= .exit 2) ?_ T.kx.length 0 (by omega) (fun _ _ _=>trivial)
 ·simpa [iL,cnt] using z
 ·have hc:=cnt_le (fun i=>T.ux.getD i false) i
  have e1:aj .sub .i64 ((u:Int) - iL i T.ux) 1=(u:Int) - ((iL i T.ux+1:Nat):Int):=by unfold iL;rw[eY,aT (by omega) (by omega)];omega
  refine IE T 0 _ T.kx.length i σ e ?_ ?_ ?_<;>dsimp only[At,Tr.q,RG,zJ]
  ·intro _ g
   rw[Int.toNat_natCast] at g
   rw[dF hi h,e1]
   refine⟨⟨(ay hi).1,(ay hi).2,trivial⟩,?_⟩
   have e2:iL (i+1) T.ux=iL i T.ux+1:=by simp only[iL,cnt,g,cond_true]
   rw[e2] at hr;exact hr
  ·intro _ g
   rw[Int.toNat_natCast] at g
   rw[dF hi h]
   refine⟨⟨(ay hi).1,(ay hi).2,trivial⟩,?_⟩
   have e2:iL (i+1) T.ux=iL i T.ux:=by simp only[iL,cnt,g,cond_false,Nat.add_zero]
   rw[e2] at hr;exact hr
  ·intro g;rw[aX] at g;omega
 ·refine IE T 0 _ T.kx.length T.kx.length _ _ ?_ ?_ ?_<;>dsimp only[At,Tr.q,RG,zJ]
  ·intro g;rw[aQ] at g;omega
  ·intro g;rw[aQ] at g;omega
  ·intro _;exact⟨trivial,rfl,rfl⟩
theorem ahe (T:Tb) (h:uK T):CallsD Try.prog 38 [T.d] (i64 (nO T)):=by
 unfold nO
 obtain⟨hI,hK,hB,hnx,hus,hno,_⟩:=h
 by_cases c:T.sz∧OZ T.nx T.us T.fr=0∧BR T.kx T.px T.ux=0∧Eg T.ps T.no T.h T.t=0
 ·rw[if_pos c]
  obtain⟨⟨s1,s2,s3,s4,s5,s6⟩,a1,a2,a3⟩:=c
  have hun:=Jw a1
  have hl:(qG T.ps T.no T.h T.t).length≤200:=by
   unfold qG;rw[if_pos a3]
   have:=x9 (yj (uw _) (y7 a3));omega
  generalize hlq:qG T.ps T.no T.h T.t=l at *
  have hct:=cnt_le (fun i=>T.us.getD i false) T.us.length
  have hM:=Y4 T (iL T.us.length T.us) (by unfold iL;omega) hI.1
  have hsz:=(sz4 T).2 ⟨s3,s4,s5,s6⟩
  have nsz:¬ (!((T.ks.length:Int) ==T.n && ((T.x1.length:Int) ==T.n && ((T.nx.length:Int) ==T.n && ((T.ps.length:Int) ==T.n && true)))))=true:=by rw[hsz];simp
  refine fF (b:=af Try.prog 38 0) (fun i=>kS T 0 (iL i T.us:Nat) l.length T.us.length (i:Int) l) T.us.length (nI T l) (fun v=>CallsD Try.prog 38 [T.d] (i64 (if v<0∧iL T.us.length T.us=iL T.kx.length T.ux then 0 else 8))) ?_ ?_ ?_
  ·intro i hi hp σ e hr
   have n1:=ay hi
   have n2:=ay (n:=T.ks.length) (i:=i) (by omega)
   have n3:=ay (n:=T.x1.length) (i:=i) (by omega)
   have hk:vk (T.ks.getD (i:Int).toNat 0):=by rw[Int.toNat_natCast];exact hK i (by omega)
   have hb:jV (T.x4.getD (i:Int).toNat 0):=by rw[Int.toNat_natCast];exact hB i (by omega)
   simp only[nI,Bool.or_eq_false_iff] at hp
   refine oI T 0 _ _ T.us.length i l σ e ?_ ?_ ?_ ?_ ?_ ?_ ?_ ?_ ?_<;>dsimp only[At,Tr.q,RG,kY]
   ·intro _ g;rw[Int.toNat_natCast,hp.1] at g;cases g
   all_goals try (intro _ _ g1;rw[Int.toNat_natCast] at g1)
   ·intro g2
    have g1':T.us.getD i false=false:=by simpa using g1
    rw[Int.toNat_natCast,aP] at g2
    have:=hp.2;rw[g1',if_neg (by simp),Bool.or_eq_false_iff,decide_eq_false_iff_not] at this;exact absurd g2 this.1
   ·intro _ g2
    have g1':T.us.getD i false=false:=by simpa using g1
    rw[z17] at g2
    have:=hp.2;rw[g1',if_neg (by simp),Bool.or_eq_false_iff,g2] at this;cases this.2
   ·intro _ _
    have g1':T.us.getD i false=false:=by simpa using g1
    rw[dF hi hus]
    refine⟨⟨n3.1,n3.2,n2.1,n2.2,rfl,hl,n1.1,n1.2,trivial⟩,?_⟩
    have e2:iL (i+1) T.us=iL i T.us:=by simp only[iL,cnt,g1',cond_false,Nat.add_zero]
    rw[e2] at hr;exact hr
   ·intro g2
    have g1':T.us.getD i false=true:=by simpa using g1
    unfold KX at g2;rw[Int.toNat_natCast,aP] at g2
    have:=hp.2;rw[g1',if_pos rfl,decide_eq_false_iff_not] at this;exact absurd (.inl g2) this
   ·intro _ g2
    have g1':T.us.getD i false=true:=by simpa using g1
    unfold JU at g2;rw[Int.toNat_natCast,aP] at g2
    have:=hp.2;rw[g1',if_pos rfl,decide_eq_false_iff_not] at this;exact absurd (.inr (.inl g2)) this
   ·intro _ _ g2
    have g1':T.us.getD i false=true:=by simpa using g1
    unfold JE at g2;rw[Int.toNat_natCast,aP] at g2
    have:=hp.2;rw[g1',if_pos rfl,decide_eq_false_iff_not] at this;exact absurd (.inr (.inr g2)) this
   ·intro _ _ _
    have g1':T.us.getD i false=true:=by simpa using g1
    have e2:iL (i+1) T.us=iL i T.us+1:=by simp only[iL,cnt,g1',cond_true]
    have e3:=cnt1 (q:=fun i=>T.us.getD i false) hi hus
    rw[dF hi hus];unfold iL;rw[e3]
    refine⟨⟨hb,n3.1,n3.2,⟨hI,hk⟩,n2.1,n2.2,rfl,hl,n1.1,n1.2,trivial⟩,?_⟩
    rw[e2] at hr;exact hr
   ·intro g;rw[aX] at g;omega
  ·intro hr
   have hL:Runs Try.prog (CallsD Try.prog) (.code (.loop (af Try.prog 38 0))) (kS T 0 0 l.length T.us.length 0 l).abs (.exit 0) (kS T 0 (iL T.us.length T.us:Nat) l.length T.us.length T.us.length l).abs:=by
    refine ak (hr _ _ ?_)
    have c0:¬ ai .lss ((T.us.length:Nat):Int) (T.us.length:Int)=true:=by rw[aQ];omega
    refine oI T 0 _ _ T.us.length T.us.length l _ _ ?_ ?_ ?_ ?_ ?_ ?_ ?_ ?_ ?_<;>dsimp only[At,Tr.q,RG,kY]
    all_goals first | (intro g;exact absurd g c0) | (intro _;exact⟨trivial,rfl,rfl⟩)
   refine PX T (iL T.us.length T.us:Nat) ((iL T.us.length T.us:Nat) - (iL T.kx.length T.ux:Nat)) _ ?_ ?_ ?_ ?_ ?_ ?_ ?_ ?_<;>dsimp only[At,Tr.q,nN]
   ·intro g;rw[aQ] at g;omega
   ·intro _ g;rw[dV] at g;omega
   ·intro _ _ g;exact absurd g nsz
   ·intro _ _ _ g;rw[aP] at g;exact absurd a1 g
   ·intro _ _ _ _ g;rw[aP] at g;exact absurd a2 g
   ·intro _ _ _ _ _ g;rw[aP] at g;exact absurd a3 g
   ·intro _ _ _ _ _ _ g;rw[aP] at g
    rw[hlq]
    exact⟨⟨hM,hL,hI,hus,trivial⟩,by rw[if_neg (by omega)]⟩
   ·intro _ _ _ _ _ _ g;rw[aY] at g
    rw[hlq]
    exact⟨⟨hM,hL,hI,hus,trivial⟩,by rw[if_pos (by omega)]⟩
  ·intro j hj hp hr
   have n1:=ay hj
   have n2:=ay (n:=T.ks.length) (i:=j) (by omega)
   have n3:=ay (n:=T.x1.length) (i:=j) (by omega)
   have hk:vk (T.ks.getD (j:Int).toNat 0):=by rw[Int.toNat_natCast];exact hK j (by omega)
   have hb:jV (T.x4.getD (j:Int).toNat 0):=by rw[Int.toNat_natCast];exact hB j (by omega)
   have hu:∃ u:Int,Runs Try.prog (CallsD Try.prog) (.rounds (af Try.prog 38 0)) (kS T 0 (iL j T.us:Nat) l.length T.us.length j l).abs .ret (kS T 8 u l.length T.us.length j l).abs:=by
    by_cases d1:(!(T.us.getD j false ==inB l j))=true
    ·refine⟨(iL j T.us:Nat),oI T 0 _ _ T.us.length j l _ _ ?_ ?_ ?_ ?_ ?_ ?_ ?_ ?_ ?_⟩
     ·intro _ _;exact⟨⟨rfl,hl,n1.1,n1.2,trivial⟩,rfl,rfl⟩
     all_goals first | (intro _ g;rw[Int.toNat_natCast,d1] at g;cases g) | (intro g;rw[aX] at g;omega)
    ·have d1':(!(T.us.getD j false ==inB l j))=false:=by simpa using d1
     simp only[nI,d1',Bool.false_or] at hp
     cases g1':T.us.getD j false with
     |false=>
      rw[g1',if_neg (by simp),Bool.or_eq_true,decide_eq_true_eq] at hp
      refine⟨(iL j T.us:Nat),oI T 0 _ _ T.us.length j l _ _ ?_ ?_ ?_ ?_ ?_ ?_ ?_ ?_ ?_⟩
      ·intro _ _;exact⟨⟨rfl,hl,n1.1,n1.2,trivial⟩,rfl,rfl⟩
      ·intro _ _ _ _;exact⟨⟨n2.1,n2.2,rfl,hl,n1.1,n1.2,trivial⟩,rfl,rfl⟩
      ·intro _ _ _ _ _;exact⟨⟨n3.1,n3.2,n2.1,n2.2,rfl,hl,n1.1,n1.2,trivial⟩,rfl,rfl⟩
      ·intro _ _ _ g2 g3
       rw[Int.toNat_natCast,aY] at g2
       rw[z17] at g3
       rcases hp with hp | hp
       ·exact absurd g2 hp
       ·rw[hp] at g3;cases g3
      all_goals first | (intro _ _ g;rw[Int.toNat_natCast,g1'] at g;cases g) | (intro g;rw[aX] at g;omega)
     |true=>
      rw[g1',if_pos rfl,decide_eq_true_eq] at hp
      refine⟨aj .add .i64 (iL j T.us:Nat) 1,oI T 0 _ _ T.us.length j l _ _ ?_ ?_ ?_ ?_ ?_ ?_ ?_ ?_ ?_⟩
      ·intro _ g;rw[Int.toNat_natCast,d1'] at g;cases g
      ·intro _ _ g;rw[Int.toNat_natCast,g1'] at g;cases g
      ·intro _ _ g;rw[Int.toNat_natCast,g1'] at g;cases g
      ·intro _ _ g;rw[Int.toNat_natCast,g1'] at g;cases g
      ·intro _ _ _ _;exact⟨⟨⟨hI,hk⟩,n2.1,n2.2,rfl,hl,n1.1,n1.2,trivial⟩,rfl,rfl⟩
      ·intro _ _ _ _ _;exact⟨⟨⟨hI,hk⟩,n2.1,n2.2,rfl,hl,n1.1,n1.2,trivial⟩,rfl,rfl⟩
      ·intro _ _ _ _ _ _;exact⟨⟨hb,n3.1,n3.2,⟨hI,hk⟩,n2.1,n2.2,rfl,hl,n1.1,n1.2,trivial⟩,rfl,rfl⟩
      ·intro _ _ _ g1 g2 g3
       unfold KX at g1;unfold JU at g2;unfold JE at g3
       rw[Int.toNat_natCast,aY] at g1 g2 g3
       rcases hp with hp | hp | hp
       ·exact absurd g1 hp
       ·exact absurd g2 hp
       ·exact absurd g3 hp
      ·intro g;rw[aX] at g;omega
   obtain⟨u,hu⟩:=hu
   refine DV T 8 u j _ ?_ ?_ ?_ ?_ ?_ ?_ ?_<;>dsimp only[At,Tr.q,nU]
   ·intro g;rw[aQ] at g;omega
   ·intro _ g;rw[dV] at g;omega
   ·intro _ _ g;exact absurd g nsz
   ·intro _ _ _ g;rw[aP] at g;exact absurd a1 g
   ·intro _ _ _ _ g;rw[aP] at g;exact absurd a2 g
   ·intro _ _ _ _ _ g;rw[aP] at g;exact absurd a3 g
   ·intro _ _ _ _ _ _
    rw[hlq]
    exact⟨⟨ak (hr _ _ hu),hI,hus,trivial⟩,by rw[if_neg (by omega)]⟩
 ·rw[if_neg c]
  refine DV T 8 0 0 _ ?_ ?_ ?_ ?_ ?_ ?_ ?_<;>dsimp only[At,Tr.q,nU]
  ·intro _;exact⟨trivial,rfl⟩
  ·intro _ _;exact⟨trivial,rfl⟩
  ·intro _ _ _;exact⟨trivial,rfl⟩
  ·intro _ _ _ _;exact⟨⟨hus,trivial⟩,rfl⟩
  ·intro _ _ _ _ _;exact⟨⟨hI,hus,trivial⟩,rfl⟩
  ·intro _ _ _ _ _ _;exact⟨⟨hI,hus,trivial⟩,rfl⟩
  ·intro g1 g2 g3 g4 g5 g6
   rw[aX] at g1;rw[gI] at g2;rw[sz4] at g3;rw[aY] at g4 g5 g6
   exact absurd ⟨⟨by omega,by omega,g3⟩,g4,g5,g6⟩ c
end TableS
end
