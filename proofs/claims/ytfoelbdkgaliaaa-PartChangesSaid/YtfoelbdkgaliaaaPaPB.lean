/- What the functions compute, and the law. No condition. -/
import Derived.Test.YtfoelbdkgaliaaaPaTR
set_option linter.unusedSectionVars false
set_option linter.unusedVariables false
set_option linter.unusedSimpArgs false
section
namespace TableS
open Go Go.Dam Go.Proofs
set_option maxRecDepth 1000000
noncomputable def zn (kx:List Int) (px:List Int) (ux:List Bool) (o:Int) (i:Int) (k:Int):Tr (Ex×Cs):= .d (ai .neq k i) (fun e0=> .s (decide (k<(kx.length:Int))=true) (.s (decide (0≤k)=true) (.d (!ux.getD k.toNat false) (fun e1=> .lf (Ex.ret,(iR (kx) (px) (ux) (8) (i) (k)))) (fun e1=> .q (false) (.lf (Ex.normal,(iR (kx) (px) (ux) (o) (i) (aj .rem .i64 (aj .add .i64 k 1) 16)))))))) (fun e0=> .lf (Ex.exit 2,(iR (kx) (px) (ux) (o) (i) (k))))
theorem af8 (kx px:List Int) (ux:List Bool) (o i k:Int):Leaves (bT Try.prog (X7) 100000 (af Try.prog 73 1) [[0,2,3,4]] [] (iR kx px ux o i k)) (zn kx px ux o i k) [] []:=by refine⟨fun _=>⟨fun _=>?_,fun _=>?_⟩,fun _=>?_⟩<;>(show _=_;kernel_rfl)
theorem yM (kx:List Int) (px:List Int) (ux:List Bool) (o:Int) (i:Int) (k:Int) (σ:St) (e:Ex) (h0:At (RG Try.prog (af Try.prog 73 1) e σ) (zn kx px ux o i k) [true,true] True) (h1:At (RG Try.prog (af Try.prog 73 1) e σ) (zn kx px ux o i k) [true,false] True) (h2:At (RG Try.prog (af Try.prog 73 1) e σ) (zn kx px ux o i k) [false] True):Runs Try.prog (CallsD Try.prog) (.rounds (af Try.prog 73 1)) (iR kx px ux o i k).abs e σ:=aO (Ry) (af8 kx px ux o i k) ⟨fun e0=>⟨fun e1=>h0 e0 e1,fun e1=>h1 e0 e1⟩,fun e0=>h2 e0⟩
noncomputable def Kr (px:List Int) (ux:List Bool) (i:Int):=px.getD i.toNat 0 ==0 && (ux.getD i.toNat false ==false && true)
noncomputable def lg (kx:List Int) (px:List Int) (ux:List Bool) (o:Int) (i:Int):Tr (Ex×Cs):= .d (ai .lss i 16) (fun e0=> .s (decide (i<(kx.length:Int))=true) (.s (decide (0≤i)=true) (.d (!ux.getD i.toNat false) (fun e1=> .s (decide (i<(kx.length:Int))=true) (.s (decide (0≤i)=true) (.d (!(kx.getD i.toNat 0 ==0 && (Kr px ux i))) (fun e2=> .lf (Ex.ret,(jm (kx) (px) (ux) (8) (i)))) (fun e2=> .lf (Ex.normal,(jm (kx) (px) (ux) (o) (aj .add .i64 i 1))))))) (fun e1=> .s (decide (i<(kx.length:Int))=true) (.s (decide (0≤i)=true) (.d (ai .lss (px.getD i.toNat 0) 0) (fun e2=> .p (.c 14) (.lf (Ex.ret,(jm (kx) (px) (ux) (8) (i))))) (fun e2=> .p (.c 4) (.s (decide (i<(kx.length:Int))=true) (.s (decide (0≤i)=true) (.d (ai .geq (px.getD i.toNat 0) 16) (fun e3=> .p (.c 8) (.lf (Ex.ret,(jm (kx) (px) (ux) (8) (i))))) (fun e3=> .p (.c 7) (.s (decide (i<(kx.length:Int))=true) (.s (decide (0≤i)=true) (.s (kx.length≤200) (.d (ai .neq (atN kx ux (kx.getD i.toNat 0)) i) (fun e4=> .lf (Ex.ret,(jm (kx) (px) (ux) (8) (i)))) (fun e4=> .p (.l [[0,2,3,4]] [] (iR kx px ux o i (dn (kx.getD i.toNat 0))) (Ex.exit 2) (iR kx px ux o i i)) (.s (decide (i<(kx.length:Int))=true) (.s (decide (0≤i)=true) (.s (vk (kx.getD i.toNat 0)) (.s (Runs Try.prog (CallsD Try.prog) (.code (.loop (af Try.prog 73 1))) (iR kx px ux o i (dn (kx.getD i.toNat 0))).abs (Ex.exit 2) (iR kx px ux o i i).abs) (.k ((iR kx px ux o i (dn (kx.getD i.toNat 0))=iR kx px ux o i (dn (kx.getD i.toNat 0)))) rfl (.lf (Ex.normal,(jm (kx) (px) (ux) (o) (aj .add .i64 i 1))))))))))))))))))))))))) (fun e0=> .lf (Ex.exit 0,(jm (kx) (px) (ux) (o) (i))))
theorem afw (kx px:List Int) (ux:List Bool) (o i:Int):Leaves (bT Try.prog (X7) 100000 (af Try.prog 73 0) [[0,2,3]] [] (jm kx px ux o i)) (lg kx px ux o i) [] []:=by refine⟨fun _=>⟨fun _=>⟨fun _=>?_,fun _=>?_⟩,fun _=>⟨fun _=>?_,fun _=>⟨fun _=>?_,fun _=>⟨fun _=>?_,fun _=>?_⟩⟩⟩⟩,fun _=>?_⟩<;>(show _=_;kernel_rfl)
theorem uD (kx:List Int) (px:List Int) (ux:List Bool) (o:Int) (i:Int) (σ:St) (e:Ex) (h0:At (RG Try.prog (af Try.prog 73 0) e σ) (lg kx px ux o i) [true,true,true] True) (h1:At (RG Try.prog (af Try.prog 73 0) e σ) (lg kx px ux o i) [true,true,false] True) (h2:At (RG Try.prog (af Try.prog 73 0) e σ) (lg kx px ux o i) [true,false,true] True) (h3:At (RG Try.prog (af Try.prog 73 0) e σ) (lg kx px ux o i) [true,false,false,true] True) (h4:At (RG Try.prog (af Try.prog 73 0) e σ) (lg kx px ux o i) [true,false,false,false,true] True) (h5:At (RG Try.prog (af Try.prog 73 0) e σ) (lg kx px ux o i) [true,false,false,false,false] True) (h6:At (RG Try.prog (af Try.prog 73 0) e σ) (lg kx px ux o i) [false] True):Runs Try.prog (CallsD Try.prog) (.rounds (af Try.prog 73 0)) (jm kx px ux o i).abs e σ:=aO (Ry) (afw kx px ux o i) ⟨fun e0=>⟨fun e1=>⟨fun e2=>h0 e0 e1 e2,fun e2=>h1 e0 e1 e2⟩,fun e1=>⟨fun e2=>h2 e0 e1 e2,fun e2=>⟨fun e3=>h3 e0 e1 e2 e3,fun e3=>⟨fun e4=>h4 e0 e1 e2 e3 e4,fun e4=>h5 e0 e1 e2 e3 e4⟩⟩⟩⟩,fun e0=>h6 e0⟩
noncomputable def aae (px:List Int) (ux:List Bool) (i:Int):=px.getD i.toNat 0 ==0 && (ux.getD i.toNat false ==false && true)
noncomputable def o8 (kx:List Int) (px:List Int) (ux:List Bool) (o:Int) (i:Int) (k:Int):Tr (Ex×Cs):= .d (ai .lss i 16) (fun e0=> .s (decide (i<(kx.length:Int))=true) (.s (decide (0≤i)=true) (.d (!ux.getD i.toNat false) (fun e1=> .s (decide (i<(kx.length:Int))=true) (.s (decide (0≤i)=true) (.d (!(kx.getD i.toNat 0 ==0 && (aae px ux i))) (fun e2=> .lf (Ex.ret,(jm (kx) (px) (ux) (8) (i)))) (fun e2=> .lf (Ex.normal,(jm (kx) (px) (ux) (o) (aj .add .i64 i 1))))))) (fun e1=> .s (decide (i<(kx.length:Int))=true) (.s (decide (0≤i)=true) (.d (ai .lss (px.getD i.toNat 0) 0) (fun e2=> .p (.c 14) (.lf (Ex.ret,(jm (kx) (px) (ux) (8) (i))))) (fun e2=> .p (.c 4) (.s (decide (i<(kx.length:Int))=true) (.s (decide (0≤i)=true) (.d (ai .geq (px.getD i.toNat 0) 16) (fun e3=> .p (.c 8) (.lf (Ex.ret,(jm (kx) (px) (ux) (8) (i))))) (fun e3=> .p (.c 7) (.s (decide (i<(kx.length:Int))=true) (.s (decide (0≤i)=true) (.s (kx.length≤200) (.d (ai .neq (atN kx ux (kx.getD i.toNat 0)) i) (fun e4=> .lf (Ex.ret,(jm (kx) (px) (ux) (8) (i)))) (fun e4=> .p (.l [[0,2,3,4]] [] (iR kx px ux o i (dn (kx.getD i.toNat 0))) Ex.ret (iR kx px ux 8 i k)) (.s (decide (i<(kx.length:Int))=true) (.s (decide (0≤i)=true) (.s (vk (kx.getD i.toNat 0)) (.s (Runs Try.prog (CallsD Try.prog) (.code (.loop (af Try.prog 73 1))) (iR kx px ux o i (dn (kx.getD i.toNat 0))).abs (Ex.ret) (iR kx px ux 8 i k).abs) (.k ((iR kx px ux o i (dn (kx.getD i.toNat 0))=iR kx px ux o i (dn (kx.getD i.toNat 0)))) rfl (.lf (Ex.ret,(jm (kx) (px) (ux) (8) (i))))))))))))))))))))))))) (fun e0=> .lf (Ex.exit 0,(jm (kx) (px) (ux) (o) (i))))
theorem aeP (kx px:List Int) (ux:List Bool) (o i k:Int):Leaves (bT Try.prog (X7) 100000 (af Try.prog 73 0) [[0,2,3]] [] (jm kx px ux o i)) (o8 kx px ux o i k) [] []:=by refine⟨fun _=>⟨fun _=>⟨fun _=>?_,fun _=>?_⟩,fun _=>⟨fun _=>?_,fun _=>⟨fun _=>?_,fun _=>⟨fun _=>?_,fun _=>?_⟩⟩⟩⟩,fun _=>?_⟩<;>(show _=_;kernel_rfl)
theorem Vd (kx:List Int) (px:List Int) (ux:List Bool) (o:Int) (i:Int) (k:Int) (σ:St) (e:Ex) (h0:At (RG Try.prog (af Try.prog 73 0) e σ) (o8 kx px ux o i k) [true,true,true] True) (h1:At (RG Try.prog (af Try.prog 73 0) e σ) (o8 kx px ux o i k) [true,true,false] True) (h2:At (RG Try.prog (af Try.prog 73 0) e σ) (o8 kx px ux o i k) [true,false,true] True) (h3:At (RG Try.prog (af Try.prog 73 0) e σ) (o8 kx px ux o i k) [true,false,false,true] True) (h4:At (RG Try.prog (af Try.prog 73 0) e σ) (o8 kx px ux o i k) [true,false,false,false,true] True) (h5:At (RG Try.prog (af Try.prog 73 0) e σ) (o8 kx px ux o i k) [true,false,false,false,false] True) (h6:At (RG Try.prog (af Try.prog 73 0) e σ) (o8 kx px ux o i k) [false] True):Runs Try.prog (CallsD Try.prog) (.rounds (af Try.prog 73 0)) (jm kx px ux o i).abs e σ:=aO (Ry) (aeP kx px ux o i k) ⟨fun e0=>⟨fun e1=>⟨fun e2=>h0 e0 e1 e2,fun e2=>h1 e0 e1 e2⟩,fun e1=>⟨fun e2=>h2 e0 e1 e2,fun e2=>⟨fun e3=>h3 e0 e1 e2 e3,fun e3=>⟨fun e4=>h4 e0 e1 e2 e3 e4,fun e4=>h5 e0 e1 e2 e3 e4⟩⟩⟩⟩,fun e0=>h6 e0⟩
noncomputable def zh (kx:List Int) (px:List Int) (ux:List Bool) (k:Int):Tr D:= .d (ai .neq (kx.length:Int) 16) (fun e0=> .p (.c 2) (.lf (i64 8))) (fun e0=> .p (.c 1) (.s (kx.length≤200) (.d (ai .gtr (↑(iL kx.length ux)) 12) (fun e1=> .lf (i64 8)) (fun e1=> .p (.l [[0,2,3]] [] (jm kx px ux 0 0) (Ex.exit 0) (jm kx px ux 0 k)) (.s (Runs Try.prog (CallsD Try.prog) (.code (.loop (af Try.prog 73 0))) (jm kx px ux 0 0).abs (Ex.exit 0) (jm kx px ux 0 k).abs) (.k ((jm kx px ux 0 0=jm kx px ux 0 0)) rfl (.lf (i64 0))))))))
theorem afn (kx px:List Int) (ux:List Bool) (k:Int):Leaves (fun l=>cu Try.prog (X7) 100000 l 73 [cc kx px ux]) (zh kx px ux k) [] []:=by refine⟨fun _=>?_,fun _=>⟨fun _=>?_,fun _=>?_⟩⟩<;>(show _=_;kernel_rfl)
theorem Ef (kx px:List Int) (ux:List Bool) (k:Int) (res:D) (h0:At (fun r=>res=r) (zh kx px ux k) [true] True) (h1:At (fun r=>res=r) (zh kx px ux k) [false,true] True) (h2:At (fun r=>res=r) (zh kx px ux k) [false,false] True):CallsD Try.prog 73 [cc kx px ux] res:=au (Ry) (afn kx px ux k) ⟨fun e0=>h0 e0,fun e0=>⟨fun e1=>h1 e0 e1,fun e1=>h2 e0 e1⟩⟩
noncomputable def DI (kx:List Int) (px:List Int) (ux:List Bool) (o:Int) (k:Int):Tr D:= .d (ai .neq (kx.length:Int) 16) (fun e0=> .p (.c 2) (.lf (i64 8))) (fun e0=> .p (.c 1) (.s (kx.length≤200) (.d (ai .gtr (↑(iL kx.length ux)) 12) (fun e1=> .lf (i64 8)) (fun e1=> .p (.l [[0,2,3]] [] (jm kx px ux 0 0) Ex.ret (jm kx px ux o k)) (.s (Runs Try.prog (CallsD Try.prog) (.code (.loop (af Try.prog 73 0))) (jm kx px ux 0 0).abs (Ex.ret) (jm kx px ux o k).abs) (.k ((jm kx px ux 0 0=jm kx px ux 0 0)) rfl (.lf (i64 o))))))))
theorem afs (kx px:List Int) (ux:List Bool) (o k:Int):Leaves (fun l=>cu Try.prog (X7) 100000 l 73 [cc kx px ux]) (DI kx px ux o k) [] []:=by refine⟨fun _=>?_,fun _=>⟨fun _=>?_,fun _=>?_⟩⟩<;>(show _=_;kernel_rfl)
theorem QF (kx px:List Int) (ux:List Bool) (o k:Int) (res:D) (h0:At (fun r=>res=r) (DI kx px ux o k) [true] True) (h1:At (fun r=>res=r) (DI kx px ux o k) [false,true] True) (h2:At (fun r=>res=r) (DI kx px ux o k) [false,false] True):CallsD Try.prog 73 [cc kx px ux] res:=au (Ry) (afs kx px ux o k) ⟨fun e0=>h0 e0,fun e0=>⟨fun e1=>h1 e0 e1,fun e1=>h2 e0 e1⟩⟩
def qO (ux:List Bool) (i:Nat):Nat→Nat→Bool
 |0,_=>false
 |d+1,k=>if k=i then false else if ux.getD k false=false then true else qO ux i d ((k+1)%16)
theorem ad6 (k:Nat) (h:k<16):aj .rem .i64 (aj .add .i64 (k:Int) 1) 16=(((k+1)%16:Nat):Int):=by
 rw[dX,aT (by omega) (by omega),CG _ (by omega)];omega
theorem D6 (kx px:List Int) (ux:List Bool) (o:Int) (i:Nat) (hx:kx.length=16):∀ (D d k:Nat),k<16→d<D→(k+d)%16=i→
  if qO ux i D k=true then ∃ k':Int,Runs Try.prog (CallsD Try.prog) (.rounds (af Try.prog 73 1)) (iR kx px ux o i k).abs .ret (iR kx px ux 8 i k').abs
  else Runs Try.prog (CallsD Try.prog) (.rounds (af Try.prog 73 1)) (iR kx px ux o i k).abs (.exit 2) (iR kx px ux o i i).abs
 |0,d,k,_,h,_=>by omega
 |D+1,d,k,hk,hd,he=>by
  have b:=ay (n:=kx.length) (i:=k) (by omega)
  by_cases c:k=i
  ·have e:qO ux i (D+1) k=false:=by simp only[qO,if_pos c]
   rw[e,if_neg (by simp)]
   subst c
   refine yM kx px ux o k k _ _ ?_ ?_ ?_<;>dsimp only[At,Tr.q,RG,zn]
   ·intro g;rw[aP] at g;omega
   ·intro g;rw[aP] at g;omega
   ·intro _;exact⟨trivial,rfl,rfl⟩
  ·cases hu:ux.getD k false with
   |false=>
    have e:qO ux i (D+1) k=true:=by simp only[qO,if_neg c,hu,if_true]
    rw[e,if_pos rfl]
    refine⟨k,yM kx px ux o i k _ _ ?_ ?_ ?_⟩
    ·intro _ _;exact⟨⟨b.1,b.2,trivial⟩,rfl,rfl⟩
    ·intro _ g;rw[Int.toNat_natCast,hu] at g;cases g
    ·intro g;rw[aY] at g;omega
   |true=>
    have e:qO ux i (D+1) k=qO ux i D ((k+1)%16):=by simp only[qO,if_neg c,hu];rw[if_neg (by simp)]
    have hd0:d≠0:=fun z=>by subst z;rw[Nat.add_zero,Nat.mod_eq_of_lt hk] at he;exact c he
    have ih:=D6 kx px ux o i hx D (d - 1) ((k+1)%16) (by omega) (by omega) (by rw[←he];omega)
    have st:∀ (σ:St) (ex:Ex),Runs Try.prog (CallsD Try.prog) (.rounds (af Try.prog 73 1)) (iR kx px ux o i ((k+1)%16:Nat)).abs ex σ→Runs Try.prog (CallsD Try.prog) (.rounds (af Try.prog 73 1)) (iR kx px ux o i k).abs ex σ:=fun σ ex r=>by
     refine yM kx px ux o i k _ _ ?_ ?_ ?_<;>dsimp only[At,Tr.q,RG,zn]
     ·intro _ g;rw[Int.toNat_natCast,hu] at g;cases g
     ·intro _ _;rw[ad6 k hk];exact⟨⟨b.1,b.2,trivial⟩,r⟩
     ·intro g;rw[aY] at g;omega
    rw[e]
    split
    next g=>rw[if_pos g] at ih;obtain⟨k',r⟩:=ih;exact⟨k',st _ _ r⟩
    next g=>rw[if_neg g] at ih;exact st _ _ ih
def nD (kx px:List Int) (ux:List Bool) (i:Nat):Bool:=
 if ux.getD i false=true then decide (px.getD i 0<0∨16≤px.getD i 0∨atN kx ux (kx.getD i 0)≠i) || qO ux i 16 (dn (kx.getD i 0)).toNat
 else decide (kx.getD i 0≠0∨px.getD i 0≠0)
def okI (kx:List Int):Prop:=kx.length≤200∧∀ i,i<kx.length→vk (kx.getD i 0)
def yJ (kx px:List Int) (ux:List Bool):Int:=if kx.length=16∧iL 16 ux≤12 then(if gJ (nD kx px ux) 16 0<0 then 0 else 8) else 8
theorem zc (a b:Int) (u:Bool) (hu:u=false):(!(a ==0 && (b ==0 && (u ==false && true))))=decide (a≠0∨b≠0):=by
 subst hu
 by_cases h1:a=0<;>by_cases h2:b=0<;>simp[h1,h2]
theorem adW (kx px:List Int) (ux:List Bool) (h:okI kx):CallsD Try.prog 73 [cc kx px ux] (i64 (yJ kx px ux)):=by
 unfold yJ
 have hl:=h.1
 by_cases c:kx.length=16∧iL 16 ux≤12
 ·rw[if_pos c]
  obtain⟨c1,c2⟩:=c
  refine fF (b:=af Try.prog 73 0) (fun i=>jm kx px ux 0 (i:Int)) 16 (nD kx px ux) (fun v=>CallsD Try.prog 73 [cc kx px ux] (i64 (if v<0 then 0 else 8))) ?_ ?_ ?_
  ·intro i hi hp σ e hr
   have n1:=ay (n:=kx.length) (i:=i) (by omega)
   have hu:=h.2 i (by omega)
   have hh:=mg hu
   have hI:=D6 kx px ux 0 i c1 16 ((i+16 - (dn (kx.getD i 0)).toNat)%16) (dn (kx.getD i 0)).toNat (by omega) (by omega) (by omega)
   refine uD kx px ux 0 i σ e ?_ ?_ ?_ ?_ ?_ ?_ ?_<;>dsimp only[At,Tr.q,RG,lg]
   ·intro _ g1 g2
    unfold Kr at g2
    rw[Int.toNat_natCast] at g1 g2
    have g1':ux.getD i false=false:=by simpa using g1
    rw[zc _ _ _ g1'] at g2
    simp only[nD,g1'] at hp;rw[if_neg (by simp)] at hp
    rw[hp] at g2;cases g2
   ·intro _ _ _;rw[dF hi (by omega)];exact⟨⟨n1.1,n1.2,n1.1,n1.2,trivial⟩,hr⟩
   all_goals (try (intro _ g1))
   all_goals (try (rw[Int.toNat_natCast] at g1;have g1':ux.getD i false=true:=by simpa using g1))
   all_goals (try (simp only[nD,g1',if_true,Bool.or_eq_false_iff,decide_eq_false_iff_not,not_or,ne_eq,Decidable.not_not] at hp))
   ·intro g2;rw[Int.toNat_natCast,aQ] at g2;omega
   ·intro _ g2;rw[Int.toNat_natCast,iQ] at g2;omega
   ·intro _ _ g2;rw[Int.toNat_natCast,aP] at g2;omega
   ·intro _ _ _
    rw[hp.2,if_neg (by simp)] at hI
    have hI':=ak hI
    rw[Int.toNat_of_nonneg hh.1] at hI'
    rw[dF hi (by omega)]
    refine⟨⟨?_,?_,n1.1,n1.2,hl,n1.1,n1.2,n1.1,n1.2,n1.1,n1.2,n1.1,n1.2,trivial⟩,hr⟩
    ·rw[Int.toNat_natCast];exact hI'
    ·rw[Int.toNat_natCast];exact hu
   ·intro g;rw[aX] at g;omega
  ·intro hr
   refine Ef kx px ux 16 _ ?_ ?_ ?_<;>dsimp only[At,Tr.q,zh]
   ·intro g;rw[aP] at g;omega
   ·intro _ g;rw[dV,c1] at g;omega
   ·intro _ _
    refine⟨⟨ak (hr _ _ ?_),hl,trivial⟩,rfl⟩
    have c0:¬ ai .lss ((16:Nat):Int) 16=true:=by rw[aQ];omega
    refine uD kx px ux 0 (16:Nat) _ _ ?_ ?_ ?_ ?_ ?_ ?_ ?_<;>dsimp only[At,Tr.q,RG,lg]
    ·intro g;exact absurd g c0
    ·intro g;exact absurd g c0
    ·intro g;exact absurd g c0
    ·intro g;exact absurd g c0
    ·intro g;exact absurd g c0
    ·intro g;exact absurd g c0
    ·intro _;exact⟨trivial,rfl,rfl⟩
  ·intro j hj hp hr
   have n1:=ay (n:=kx.length) (i:=j) (by omega)
   have hu:=h.2 j (by omega)
   have hh:=mg hu
   have hI:=D6 kx px ux 0 j c1 16 ((j+16 - (dn (kx.getD j 0)).toNat)%16) (dn (kx.getD j 0)).toNat (by omega) (by omega) (by omega)
   refine QF kx px ux 8 j _ ?_ ?_ ?_<;>dsimp only[At,Tr.q,DI]
   ·intro g;rw[aP] at g;omega
   ·intro _ g;rw[dV,c1] at g;omega
   ·intro _ _
    refine⟨⟨ak (hr _ _ ?_),hl,trivial⟩,by rw[if_neg (by omega)]⟩
    cases g1':ux.getD j false with
    |false=>
     simp only[nD,g1'] at hp;rw[if_neg (by simp)] at hp
     refine uD kx px ux 0 j _ _ ?_ ?_ ?_ ?_ ?_ ?_ ?_<;>dsimp only[At,Tr.q,RG,lg]
     ·intro _ _ _;exact⟨⟨n1.1,n1.2,n1.1,n1.2,trivial⟩,rfl,rfl⟩
     ·intro _ _ g2;unfold Kr at g2;rw[Int.toNat_natCast,zc _ _ _ g1',hp] at g2;cases g2
     ·intro _ g;rw[Int.toNat_natCast,g1'] at g;cases g
     ·intro _ g;rw[Int.toNat_natCast,g1'] at g;cases g
     ·intro _ g;rw[Int.toNat_natCast,g1'] at g;cases g
     ·intro _ g;rw[Int.toNat_natCast,g1'] at g;cases g
     ·intro g;rw[aX] at g;omega
    |true=>
     simp only[nD,g1',if_true] at hp
     cases hw:qO ux j 16 (dn (kx.getD j 0)).toNat with
     |true=>
      rw[hw,if_pos rfl] at hI
      obtain⟨k',hI⟩:=hI
      have hI':=ak hI
      rw[Int.toNat_of_nonneg hh.1] at hI'
      refine Vd kx px ux 0 j k' _ _ ?_ ?_ ?_ ?_ ?_ ?_ ?_<;>dsimp only[At,Tr.q,RG,o8]
      ·intro _ g;rw[Int.toNat_natCast,g1'] at g;cases g
      ·intro _ g;rw[Int.toNat_natCast,g1'] at g;cases g
      ·intro _ _ _;exact⟨⟨n1.1,n1.2,n1.1,n1.2,trivial⟩,rfl,rfl⟩
      ·intro _ _ _ _;exact⟨⟨n1.1,n1.2,n1.1,n1.2,n1.1,n1.2,trivial⟩,rfl,rfl⟩
      ·intro _ _ _ _ _;exact⟨⟨hl,n1.1,n1.2,n1.1,n1.2,n1.1,n1.2,n1.1,n1.2,trivial⟩,rfl,rfl⟩
      ·intro _ _ _ _ _
       refine⟨⟨?_,?_,n1.1,n1.2,hl,n1.1,n1.2,n1.1,n1.2,n1.1,n1.2,n1.1,n1.2,trivial⟩,rfl,rfl⟩
       ·rw[Int.toNat_natCast];exact hI'
       ·rw[Int.toNat_natCast];exact hu
      ·intro g;rw[aX] at g;omega
     |false=>
      rw[hw,Bool.or_false,decide_eq_true_eq] at hp
      refine uD kx px ux 0 j _ _ ?_ ?_ ?_ ?_ ?_ ?_ ?_<;>dsimp only[At,Tr.q,RG,lg]
      ·intro _ g;rw[Int.toNat_natCast,g1'] at g;cases g
      ·intro _ g;rw[Int.toNat_natCast,g1'] at g;cases g
      ·intro _ _ _;exact⟨⟨n1.1,n1.2,n1.1,n1.2,trivial⟩,rfl,rfl⟩
      ·intro _ _ _ _;exact⟨⟨n1.1,n1.2,n1.1,n1.2,n1.1,n1.2,trivial⟩,rfl,rfl⟩
      ·intro _ _ _ _ _;exact⟨⟨hl,n1.1,n1.2,n1.1,n1.2,n1.1,n1.2,n1.1,n1.2,trivial⟩,rfl,rfl⟩
      ·intro _ _ g2 g3 g4
       rw[Int.toNat_natCast] at g2 g3 g4
       rw[aX] at g2;rw[iP] at g3;rw[aY] at g4
       omega
      ·intro g;rw[aX] at g;omega
 ·rw[if_neg c]
  refine Ef kx px ux 0 _ ?_ ?_ ?_<;>dsimp only[At,Tr.q,zh]
  ·intro _;exact⟨trivial,rfl⟩
  ·intro _ _;exact⟨⟨hl,trivial⟩,rfl⟩
  ·intro g1 g2
   rw[aY] at g1;rw[gI] at g2
   have:kx.length=16:=by omega
   rw[this] at g2
   exact absurd ⟨this,by omega⟩ c
def ad4:List D→Option (D×List Prop)
 |[.rc [.ints .u32 kx, .ints .i64 px, .bools ux]]=>some (i64 (yJ kx px ux),[okI kx])
 |_=>none
theorem acg (args res l) (h:ad4 args=some (res,l)) (hl:aI l):CallsD Try.prog 73 args res:=by
 unfold ad4 at h;split at h
 ·simp only[Option.some.injEq,Prod.mk.injEq] at h
  obtain⟨rfl,rfl⟩:=h;obtain⟨h0,_⟩:=hl
  exact adW _ _ _ h0
 ·cases h
end TableS
end

section
namespace TableS
open Go Go.Dam Go.Proofs
set_option maxRecDepth 1000000
noncomputable def G5 (kx:List Int) (px:List Int) (ux:List Bool) (o:Int) (n:Int) (m:Int) (j:Int):Tr (Ex×Cs):= .d (ai .lss j m) (fun e0=> .s (decide (j<(kx.length:Int))=true) (.s (decide (0≤j)=true) (.d (ux.getD j.toNat false) (fun e1=> .lf (Ex.normal,(Jb (kx) (px) (ux) (o) (aj .add .i64 n 1) (m) (aj .add .i64 j 1)))) (fun e1=> .lf (Ex.normal,(Jb (kx) (px) (ux) (o) (n) (m) (aj .add .i64 j 1))))))) (fun e0=> .lf (Ex.exit 0,(Jb (kx) (px) (ux) (o) (n) (m) (j))))
theorem ai4 (kx px:List Int) (ux:List Bool) (o n m j:Int):Leaves (bT Try.prog (X7) 100000 (af Try.prog 58 0) [[0,2,3,13,14,15]] [] (Jb kx px ux o n m j)) (G5 kx px ux o n m j) [] []:=by refine⟨fun _=>⟨fun _=>?_,fun _=>?_⟩,fun _=>?_⟩<;>(show _=_;kernel_rfl)
theorem OV (kx:List Int) (px:List Int) (ux:List Bool) (o:Int) (n:Int) (m:Int) (j:Int) (σ:St) (e:Ex) (h0:At (RG Try.prog (af Try.prog 58 0) e σ) (G5 kx px ux o n m j) [true,true] True) (h1:At (RG Try.prog (af Try.prog 58 0) e σ) (G5 kx px ux o n m j) [true,false] True) (h2:At (RG Try.prog (af Try.prog 58 0) e σ) (G5 kx px ux o n m j) [false] True):Runs Try.prog (CallsD Try.prog) (.rounds (af Try.prog 58 0)) (Jb kx px ux o n m j).abs e σ:=aO (Ry) (ai4 kx px ux o n m j) ⟨fun e0=>⟨fun e1=>h0 e0 e1,fun e1=>h1 e0 e1⟩,fun e0=>h2 e0⟩
noncomputable def Jt (px:List Int) (ux:List Bool) (i:Int):=px.getD i.toNat 0 ==0 && (ux.getD i.toNat false ==false && true)
noncomputable def jW (kx:List Int) (px:List Int) (ux:List Bool) (o:Int) (i:Int):Tr (Ex×Cs):= .d (ai .lss i 16) (fun e0=> .s (decide (i<(kx.length:Int))=true) (.s (decide (0≤i)=true) (.d (!ux.getD i.toNat false) (fun e1=> .p (.c 1) (.d (!(kx.getD i.toNat 0 ==0 && (Jt px ux i))) (fun e2=> .p (.c 3) (.lf (Ex.ret,(kC (kx) (px) (ux) (8) (i))))) (fun e2=> .p (.c 1) (.d (ux.getD i.toNat false) (fun e3=> .p (.c 2) (.d (ai .lss (px.getD i.toNat 0) 0) (fun e4=> .p (.c 4) (.lf (Ex.ret,(kC (kx) (px) (ux) (8) (i))))) (fun e4=> .p (.c 3) (.d (ai .geq (px.getD i.toNat 0) 16) (fun e5=> .lf (Ex.ret,(kC (kx) (px) (ux) (8) (i)))) (fun e5=> .p (.d true) (.p (.c 1) (.s (YG kx ux (kx.getD i.toNat 0)) (.k _ e3 (.d (ai .neq (↑(oP kx ux (kx.getD i.toNat 0))) i) (fun e6=> .lf (Ex.ret,(kC (kx) (px) (ux) (8) (i)))) (fun e6=> .lf (Ex.normal,(kC (kx) (px) (ux) (o) (aj .add .i64 i 1))))))))))))) (fun e3=> .p (.c 5) (.p (.d false) (.p (.c 2) (.s (YG kx ux (kx.getD i.toNat 0)) (.k _ e3 (.lf (Ex.normal,(kC (kx) (px) (ux) (o) (aj .add .i64 i 1))))))))))))) (fun e1=> .p (.c 4) (.d (ux.getD i.toNat false) (fun e2=> .p (.c 2) (.d (ai .lss (px.getD i.toNat 0) 0) (fun e3=> .p (.c 4) (.lf (Ex.ret,(kC (kx) (px) (ux) (8) (i))))) (fun e3=> .p (.c 3) (.d (ai .geq (px.getD i.toNat 0) 16) (fun e4=> .lf (Ex.ret,(kC (kx) (px) (ux) (8) (i)))) (fun e4=> .p (.d true) (.p (.c 1) (.s (YG kx ux (kx.getD i.toNat 0)) (.k _ e2 (.d (ai .neq (↑(oP kx ux (kx.getD i.toNat 0))) i) (fun e5=> .lf (Ex.ret,(kC (kx) (px) (ux) (8) (i)))) (fun e5=> .lf (Ex.normal,(kC (kx) (px) (ux) (o) (aj .add .i64 i 1))))))))))))) (fun e2=> .p (.c 5) (.p (.d false) (.p (.c 2) (.s (YG kx ux (kx.getD i.toNat 0)) (.k _ e2 (.lf (Ex.normal,(kC (kx) (px) (ux) (o) (aj .add .i64 i 1)))))))))))))) (fun e0=> .lf (Ex.exit 2,(kC (kx) (px) (ux) (o) (i))))
theorem ahg (kx px:List Int) (ux:List Bool) (o i:Int):Leaves (bT Try.prog (X7) 100000 (af Try.prog 58 1) [[0,2,26]] [] (kC kx px ux o i)) (jW kx px ux o i) [] []:=by refine⟨fun _=>⟨fun _=>⟨fun _=>?_,fun _=>⟨fun _=>⟨fun _=>?_,fun _=>⟨fun _=>?_,fun _=>⟨fun _=>?_,fun _=>?_⟩⟩⟩,fun _=>?_⟩⟩,fun _=>⟨fun _=>⟨fun _=>?_,fun _=>⟨fun _=>?_,fun _=>⟨fun _=>?_,fun _=>?_⟩⟩⟩,fun _=>?_⟩⟩,fun _=>?_⟩<;>(show _=_;kernel_rfl)
theorem qM (kx:List Int) (px:List Int) (ux:List Bool) (o:Int) (i:Int) (σ:St) (e:Ex) (h0:At (RG Try.prog (af Try.prog 58 1) e σ) (jW kx px ux o i) [true,true,true] True) (h1:At (RG Try.prog (af Try.prog 58 1) e σ) (jW kx px ux o i) [true,true,false,true,true] True) (h2:At (RG Try.prog (af Try.prog 58 1) e σ) (jW kx px ux o i) [true,true,false,true,false,true] True) (h3:At (RG Try.prog (af Try.prog 58 1) e σ) (jW kx px ux o i) [true,true,false,true,false,false,true] True) (h4:At (RG Try.prog (af Try.prog 58 1) e σ) (jW kx px ux o i) [true,true,false,true,false,false,false] True) (h5:At (RG Try.prog (af Try.prog 58 1) e σ) (jW kx px ux o i) [true,true,false,false] True) (h6:At (RG Try.prog (af Try.prog 58 1) e σ) (jW kx px ux o i) [true,false,true,true] True) (h7:At (RG Try.prog (af Try.prog 58 1) e σ) (jW kx px ux o i) [true,false,true,false,true] True) (h8:At (RG Try.prog (af Try.prog 58 1) e σ) (jW kx px ux o i) [true,false,true,false,false,true] True) (h9:At (RG Try.prog (af Try.prog 58 1) e σ) (jW kx px ux o i) [true,false,true,false,false,false] True) (h10:At (RG Try.prog (af Try.prog 58 1) e σ) (jW kx px ux o i) [true,false,false] True) (h11:At (RG Try.prog (af Try.prog 58 1) e σ) (jW kx px ux o i) [false] True):Runs Try.prog (CallsD Try.prog) (.rounds (af Try.prog 58 1)) (kC kx px ux o i).abs e σ:=aO (Ry) (ahg kx px ux o i) ⟨fun e0=>⟨fun e1=>⟨fun e2=>h0 e0 e1 e2,fun e2=>⟨fun e3=>⟨fun e4=>h1 e0 e1 e2 e3 e4,fun e4=>⟨fun e5=>h2 e0 e1 e2 e3 e4 e5,fun e5=>⟨fun e6=>h3 e0 e1 e2 e3 e4 e5 e6,fun e6=>h4 e0 e1 e2 e3 e4 e5 e6⟩⟩⟩,fun e3=>h5 e0 e1 e2 e3⟩⟩,fun e1=>⟨fun e2=>⟨fun e3=>h6 e0 e1 e2 e3,fun e3=>⟨fun e4=>h7 e0 e1 e2 e3 e4,fun e4=>⟨fun e5=>h8 e0 e1 e2 e3 e4 e5,fun e5=>h9 e0 e1 e2 e3 e4 e5⟩⟩⟩,fun e2=>h10 e0 e1 e2⟩⟩,fun e0=>h11 e0⟩
noncomputable def Hw (kx:List Int) (px:List Int) (ux:List Bool) (n:Int) (k:Int):Tr D:= .d (ai .neq (kx.length:Int) 16) (fun e0=> .lf (i64 8)) (fun e0=> .p (.l [[0,2,3,13,14,15]] [] (Jb kx px ux 0 0 (kx.length:Int) 0) (Ex.exit 0) (Jb kx px ux 0 n (kx.length:Int) (kx.length:Int))) (.s (Runs Try.prog (CallsD Try.prog) (.code (.loop (af Try.prog 58 0))) (Jb kx px ux 0 0 (kx.length:Int) 0).abs (Ex.exit 0) (Jb kx px ux 0 n (kx.length:Int) (kx.length:Int)).abs) (.k ((Jb kx px ux 0 0 (kx.length:Int) 0=Jb kx px ux 0 0 (kx.length:Int) 0)) rfl (.d (ai .gtr n 12) (fun e1=> .lf (i64 8)) (fun e1=> .p (.l [[0,2,26]] [] (kC kx px ux 0 0) (Ex.exit 2) (kC kx px ux 0 k)) (.s (Runs Try.prog (CallsD Try.prog) (.code (.loop (af Try.prog 58 1))) (kC kx px ux 0 0).abs (Ex.exit 2) (kC kx px ux 0 k).abs) (.k ((kC kx px ux 0 0=kC kx px ux 0 0)) rfl (.lf (i64 0)))))))))
theorem agz (kx px:List Int) (ux:List Bool) (n k:Int):Leaves (fun l=>cu Try.prog (X7) 100000 l 58 [cc kx px ux]) (Hw kx px ux n k) [] []:=by refine⟨fun _=>?_,fun _=>⟨fun _=>?_,fun _=>?_⟩⟩<;>(show _=_;kernel_rfl)
theorem Iy (kx px:List Int) (ux:List Bool) (n k:Int) (res:D) (h0:At (fun r=>res=r) (Hw kx px ux n k) [true] True) (h1:At (fun r=>res=r) (Hw kx px ux n k) [false,true] True) (h2:At (fun r=>res=r) (Hw kx px ux n k) [false,false] True):CallsD Try.prog 58 [cc kx px ux] res:=au (Ry) (agz kx px ux n k) ⟨fun e0=>h0 e0,fun e0=>⟨fun e1=>h1 e0 e1,fun e1=>h2 e0 e1⟩⟩
noncomputable def ML (kx:List Int) (px:List Int) (ux:List Bool) (n:Int) (o:Int) (k:Int):Tr D:= .d (ai .neq (kx.length:Int) 16) (fun e0=> .lf (i64 8)) (fun e0=> .p (.l [[0,2,3,13,14,15]] [] (Jb kx px ux 0 0 (kx.length:Int) 0) (Ex.exit 0) (Jb kx px ux 0 n (kx.length:Int) (kx.length:Int))) (.s (Runs Try.prog (CallsD Try.prog) (.code (.loop (af Try.prog 58 0))) (Jb kx px ux 0 0 (kx.length:Int) 0).abs (Ex.exit 0) (Jb kx px ux 0 n (kx.length:Int) (kx.length:Int)).abs) (.k ((Jb kx px ux 0 0 (kx.length:Int) 0=Jb kx px ux 0 0 (kx.length:Int) 0)) rfl (.d (ai .gtr n 12) (fun e1=> .lf (i64 8)) (fun e1=> .p (.l [[0,2,26]] [] (kC kx px ux 0 0) Ex.ret (kC kx px ux o k)) (.s (Runs Try.prog (CallsD Try.prog) (.code (.loop (af Try.prog 58 1))) (kC kx px ux 0 0).abs (Ex.ret) (kC kx px ux o k).abs) (.k ((kC kx px ux 0 0=kC kx px ux 0 0)) rfl (.lf (i64 o)))))))))
theorem ai0 (kx px:List Int) (ux:List Bool) (n o k:Int):Leaves (fun l=>cu Try.prog (X7) 100000 l 58 [cc kx px ux]) (ML kx px ux n o k) [] []:=by refine⟨fun _=>?_,fun _=>⟨fun _=>?_,fun _=>?_⟩⟩<;>(show _=_;kernel_rfl)
theorem Vx (kx px:List Int) (ux:List Bool) (n o k:Int) (res:D) (h0:At (fun r=>res=r) (ML kx px ux n o k) [true] True) (h1:At (fun r=>res=r) (ML kx px ux n o k) [false,true] True) (h2:At (fun r=>res=r) (ML kx px ux n o k) [false,false] True):CallsD Try.prog 58 [cc kx px ux] res:=au (Ry) (ai0 kx px ux n o k) ⟨fun e0=>h0 e0,fun e0=>⟨fun e1=>h1 e0 e1,fun e1=>h2 e0 e1⟩⟩
def qy (kx px:List Int) (ux:List Bool) (i:Nat):Bool:=
 if ux.getD i false=true then decide (px.getD i 0<0∨16≤px.getD i 0∨oP kx ux (kx.getD i 0)≠i)
 else decide (kx.getD i 0≠0∨px.getD i 0≠0)
def BR (kx px:List Int) (ux:List Bool):Int:=if kx.length=16∧iL 16 ux≤12 then(if gJ (qy kx px ux) 16 0<0 then 0 else 8) else 8
theorem lY {ux:List Bool}:∀ {n:Nat},iL n ux<n→∃ j,j<n∧ux.getD j false=false
 |0,h=>by omega
 |n+1,h=>by
  cases e:ux.getD n false with
  |false=>exact⟨n,by omega,e⟩
  |true=>
   have:iL n ux<n:=by simp only[iL,cnt,e,cond_true] at h;simp only[iL];omega
   obtain⟨j,a,b⟩:=lY this
   exact⟨j,by omega,b⟩
theorem aaY (kx px:List Int) (ux:List Bool) (h:kx.length≤200):
  Runs Try.prog (CallsD Try.prog) (.code (.loop (af Try.prog 58 0))) (Jb kx px ux 0 0 kx.length 0).abs (.exit 0) (Jb kx px ux 0 (iL kx.length ux:Nat) kx.length kx.length).abs:=by
 refine ak ?_
 refine dS (fun i=>Jb kx px ux 0 (iL i ux:Nat) kx.length (i:Int)) kx.length (fun _=>True) (fun i hi _ σ e hr=>?_) ?_ kx.length 0 (by omega) (fun _ _ _=>trivial)
 ·refine OV kx px ux 0 _ kx.length i σ e ?_ ?_ ?_<;>dsimp only[At,Tr.q,RG,G5]
  ·intro _ g
   rw[Int.toNat_natCast] at g
   rw[dF hi h];unfold iL;rw[cnt1 hi h]
   refine⟨⟨(ay hi).1,(ay hi).2,trivial⟩,?_⟩
   simp only[iL,cnt,g,cond_true] at hr;exact hr
  ·intro _ g
   rw[Int.toNat_natCast] at g
   rw[dF hi h]
   refine⟨⟨(ay hi).1,(ay hi).2,trivial⟩,?_⟩
   simp only[iL,cnt,g,cond_false,Nat.add_zero] at hr;exact hr
  ·intro g;rw[aX] at g;omega
 ·refine OV kx px ux 0 _ kx.length kx.length _ _ ?_ ?_ ?_<;>dsimp only[At,Tr.q,RG,G5]
  ·intro g;rw[aQ] at g;omega
  ·intro g;rw[aQ] at g;omega
  ·intro _;exact⟨trivial,rfl,rfl⟩
theorem ahh (kx px:List Int) (ux:List Bool) (h:okI kx):CallsD Try.prog 58 [cc kx px ux] (i64 (BR kx px ux)):=by
 unfold BR
 have hl:=h.1
 have hL:=aaY kx px ux hl
 by_cases c:kx.length=16∧iL 16 ux≤12
 ·rw[if_pos c]
  obtain⟨c1,c2⟩:=c
  have hfree:=lY (ux:=ux) (n:=16) (by omega)
  have hlk:∀ i,i<16→YG kx ux (kx.getD i 0):=fun i hi=>⟨c1,h.2 i (by omega),hfree⟩
  refine fF (b:=af Try.prog 58 1) (fun i=>kC kx px ux 0 (i:Int)) 16 (qy kx px ux) (fun v=>CallsD Try.prog 58 [cc kx px ux] (i64 (if v<0 then 0 else 8))) ?_ ?_ ?_
  ·intro i hi hp σ e hr
   have n1:=ay (n:=kx.length) (i:=i) (by omega)
   have hk:=hlk i hi
   have hs:=dF hi (by omega)
   have hkx:YG kx ux (kx.getD (i:Int).toNat 0):=by rw[Int.toNat_natCast];exact hk
   cases g1':ux.getD i false with
   |false=>
    simp only[qy,g1'] at hp;rw[if_neg (by simp)] at hp
    have ga:¬ ux.getD (i:Int).toNat false=true:=by rw[Int.toNat_natCast,g1'];simp
    have gb:¬ (!ux.getD (i:Int).toNat false)=false:=by rw[Int.toNat_natCast,g1'];simp
    refine qM kx px ux 0 i σ e ?_ ?_ ?_ ?_ ?_ ?_ ?_ ?_ ?_ ?_ ?_ ?_<;>dsimp only[At,Tr.q,RG,jW]
    ·intro _ _ g2
     try unfold Jt at g2
     rw[Int.toNat_natCast,zc _ _ _ g1',hp] at g2;cases g2
    ·intro _ _ _ g;exact absurd g ga
    ·intro _ _ _ g;exact absurd g ga
    ·intro _ _ _ g;exact absurd g ga
    ·intro _ _ _ g;exact absurd g ga
    ·intro _ _ _ _
     (try unfold pcM_c1);(try unfold Jt)
     rw[hs];exact⟨⟨hkx,n1.1,n1.2,trivial⟩,hr⟩
    ·intro _ g;exact absurd g gb
    ·intro _ g;exact absurd g gb
    ·intro _ g;exact absurd g gb
    ·intro _ g;exact absurd g gb
    ·intro _ g;exact absurd g gb
    ·intro g;rw[aX] at g;omega
   |true=>
    simp only[qy,g1',if_true,decide_eq_false_iff_not,not_or,ne_eq,Decidable.not_not] at hp
    have ga:¬ ux.getD (i:Int).toNat false=false:=by rw[Int.toNat_natCast,g1'];simp
    have gb:¬ (!ux.getD (i:Int).toNat false)=true:=by rw[Int.toNat_natCast,g1'];simp
    refine qM kx px ux 0 i σ e ?_ ?_ ?_ ?_ ?_ ?_ ?_ ?_ ?_ ?_ ?_ ?_<;>dsimp only[At,Tr.q,RG,jW]
    ·intro _ g;exact absurd g gb
    ·intro _ g;exact absurd g gb
    ·intro _ g;exact absurd g gb
    ·intro _ g;exact absurd g gb
    ·intro _ g;exact absurd g gb
    ·intro _ g;exact absurd g gb
    ·intro _ _ _ g;rw[Int.toNat_natCast,aQ] at g;omega
    ·intro _ _ _ _ g;rw[Int.toNat_natCast,iQ] at g;omega
    ·intro _ _ _ _ _ g;rw[Int.toNat_natCast,aP] at g;omega
    ·intro _ _ _ _ _ _
     (try unfold pcM_c1);(try unfold Jt)
     rw[hs];exact⟨⟨hkx,n1.1,n1.2,trivial⟩,hr⟩
    ·intro _ _ g;exact absurd g ga
    ·intro g;rw[aX] at g;omega
  ·intro hr
   refine Iy kx px ux (iL kx.length ux:Nat) 16 _ ?_ ?_ ?_<;>dsimp only[At,Tr.q,Hw]
   ·intro g;rw[aP] at g;omega
   ·intro _ g;rw[dV,c1] at g;omega
   ·intro _ _
    refine⟨⟨ak (hr _ _ ?_),hL,trivial⟩,rfl⟩
    have c0:¬ ai .lss ((16:Nat):Int) 16=true:=by rw[aQ];omega
    refine qM kx px ux 0 (16:Nat) _ _ ?_ ?_ ?_ ?_ ?_ ?_ ?_ ?_ ?_ ?_ ?_ ?_<;>dsimp only[At,Tr.q,RG,jW]
    all_goals first | (intro g;exact absurd g c0) | (intro _;exact⟨trivial,rfl,rfl⟩)
  ·intro j hj hp hr
   have n1:=ay (n:=kx.length) (i:=j) (by omega)
   have hk:=hlk j hj
   have hkx:YG kx ux (kx.getD (j:Int).toNat 0):=by rw[Int.toNat_natCast];exact hk
   refine Vx kx px ux (iL kx.length ux:Nat) 8 j _ ?_ ?_ ?_<;>dsimp only[At,Tr.q,ML]
   ·intro g;rw[aP] at g;omega
   ·intro _ g;rw[dV,c1] at g;omega
   ·intro _ _
    refine⟨⟨ak (hr _ _ ?_),hL,trivial⟩,by rw[if_neg (by omega)]⟩
    cases g1':ux.getD j false with
    |false=>
     simp only[qy,g1'] at hp;rw[if_neg (by simp)] at hp
     have ga:¬ ux.getD (j:Int).toNat false=true:=by rw[Int.toNat_natCast,g1'];simp
     have gb:¬ (!ux.getD (j:Int).toNat false)=false:=by rw[Int.toNat_natCast,g1'];simp
     have gc:∀ g2,(!(kx.getD (j:Int).toNat 0 ==0 && (px.getD (j:Int).toNat 0 ==0 && (ux.getD (j:Int).toNat false ==false && true))))=g2→g2=true:=fun g2 e=>by
      rw[Int.toNat_natCast,zc _ _ _ g1',hp] at e;exact e.symm
     refine qM kx px ux 0 j _ _ ?_ ?_ ?_ ?_ ?_ ?_ ?_ ?_ ?_ ?_ ?_ ?_<;>dsimp only[At,Tr.q,RG,jW]
     ·intro _ _ _;exact⟨⟨n1.1,n1.2,trivial⟩,rfl,rfl⟩
     ·intro _ _ _ g;exact absurd g ga
     ·intro _ _ _ g;exact absurd g ga
     ·intro _ _ _ g;exact absurd g ga
     ·intro _ _ _ g;exact absurd g ga
     ·intro _ _ g2;exact absurd (gc _ g2) (by simp)
     ·intro _ g;exact absurd g gb
     ·intro _ g;exact absurd g gb
     ·intro _ g;exact absurd g gb
     ·intro _ g;exact absurd g gb
     ·intro _ g;exact absurd g gb
     ·intro g;rw[aX] at g;omega
    |true=>
     simp only[qy,g1',if_true,decide_eq_true_eq] at hp
     have ga:¬ ux.getD (j:Int).toNat false=false:=by rw[Int.toNat_natCast,g1'];simp
     have gb:¬ (!ux.getD (j:Int).toNat false)=true:=by rw[Int.toNat_natCast,g1'];simp
     refine qM kx px ux 0 j _ _ ?_ ?_ ?_ ?_ ?_ ?_ ?_ ?_ ?_ ?_ ?_ ?_<;>dsimp only[At,Tr.q,RG,jW]
     ·intro _ g;exact absurd g gb
     ·intro _ g;exact absurd g gb
     ·intro _ g;exact absurd g gb
     ·intro _ g;exact absurd g gb
     ·intro _ g;exact absurd g gb
     ·intro _ g;exact absurd g gb
     ·intro _ _ _ _;exact⟨⟨n1.1,n1.2,trivial⟩,rfl,rfl⟩
     ·intro _ _ _ _ _;exact⟨⟨n1.1,n1.2,trivial⟩,rfl,rfl⟩
     ·intro _ _ _ _ _ _;exact⟨⟨hkx,n1.1,n1.2,trivial⟩,rfl,rfl⟩
     ·intro _ _ _ g1 g2 g3
      rw[Int.toNat_natCast] at g1 g2 g3
      rw[aX] at g1;rw[iP] at g2;rw[aY] at g3
      omega
     ·intro _ _ g;exact absurd g ga
     ·intro g;rw[aX] at g;omega
 ·rw[if_neg c]
  refine Iy kx px ux (iL kx.length ux:Nat) 0 _ ?_ ?_ ?_<;>dsimp only[At,Tr.q,Hw]
  ·intro _;exact⟨trivial,rfl⟩
  ·intro _ _;exact⟨⟨hL,trivial⟩,rfl⟩
  ·intro g1 g2
   rw[aY] at g1;rw[gI] at g2
   have:kx.length=16:=by omega
   rw[this] at g2
   exact absurd ⟨this,by omega⟩ c
def pcC:List D→Option (D×List Prop)
 |[.rc [.ints .u32 kx, .ints .i64 px, .bools ux]]=>some (i64 (BR kx px ux),[okI kx])
 |_=>none
theorem aeE (args res l) (h:pcC args=some (res,l)) (hl:aI l):CallsD Try.prog 58 args res:=by
 unfold pcC at h;split at h
 ·simp only[Option.some.injEq,Prod.mk.injEq] at h
  obtain⟨rfl,rfl⟩:=h;obtain⟨h0,_⟩:=hl
  exact ahh _ _ _ h0
 ·cases h
def X8:aB:=aJ 58 (.call pcC) (aJ 73 (.call ad4) (aJ 72 (.call agd) (aJ 74 (.call adH) X7)))
theorem Um:bG Try.prog X8:=ax aeE (ax acg (ax aaI (ax aaB Ry)))
end TableS
end

section
namespace TableS
open Go Go.Dam Go.Proofs
set_option maxRecDepth 1000000
noncomputable def wS (b:Int) (r:Int) (p:Int):Tr D:= .d (ai .lss b 1) (fun e0=> .p (.c 14) (.lf (i64 8))) (fun e0=> .p (.c 1) (.d (ai .gtr b 1000000000) (fun e1=> .p (.c 11) (.lf (i64 8))) (fun e1=> .p (.c 1) (.d (ai .lss r 0) (fun e2=> .p (.c 8) (.lf (i64 8))) (fun e2=> .p (.c 1) (.d (ai .gtr r 1000000000) (fun e3=> .p (.c 5) (.lf (i64 8))) (fun e3=> .p (.c 1) (.d (ai .lss p 1) (fun e4=> .p (.c 2) (.lf (i64 8))) (fun e4=> .p (.c 1) (.d (ai .gtr p 1000000000) (fun e5=> .lf (i64 8)) (fun e5=> .lf (i64 0))))))))))))
theorem ah2 (b r p:Int):Leaves (fun l=>cu Try.prog (X8) 100000 l 40 [D.agg [i64 b,i64 r,i64 p]]) (wS b r p) [] []:=by refine⟨fun _=>?_,fun _=>⟨fun _=>?_,fun _=>⟨fun _=>?_,fun _=>⟨fun _=>?_,fun _=>⟨fun _=>?_,fun _=>⟨fun _=>?_,fun _=>?_⟩⟩⟩⟩⟩⟩<;>(show _=_;kernel_rfl)
theorem U2 (b r p:Int) (res:D) (h0:At (fun r=>res=r) (wS b r p) [true] True) (h1:At (fun r=>res=r) (wS b r p) [false,true] True) (h2:At (fun r=>res=r) (wS b r p) [false,false,true] True) (h3:At (fun r=>res=r) (wS b r p) [false,false,false,true] True) (h4:At (fun r=>res=r) (wS b r p) [false,false,false,false,true] True) (h5:At (fun r=>res=r) (wS b r p) [false,false,false,false,false,true] True) (h6:At (fun r=>res=r) (wS b r p) [false,false,false,false,false,false] True):CallsD Try.prog 40 [D.agg [i64 b,i64 r,i64 p]] res:=au (Um) (ah2 b r p) ⟨fun e0=>h0 e0,fun e0=>⟨fun e1=>h1 e0 e1,fun e1=>⟨fun e2=>h2 e0 e1 e2,fun e2=>⟨fun e3=>h3 e0 e1 e2 e3,fun e3=>⟨fun e4=>h4 e0 e1 e2 e3 e4,fun e4=>⟨fun e5=>h5 e0 e1 e2 e3 e4 e5,fun e5=>h6 e0 e1 e2 e3 e4 e5⟩⟩⟩⟩⟩⟩
noncomputable def xK (b:Int) (r:Int) (p:Int):Tr D:= .d (ai .lss b 1) (fun e0=> .p (.c 14) (.lf (i64 8))) (fun e0=> .p (.c 1) (.d (ai .gtr b 1000000000) (fun e1=> .p (.c 11) (.lf (i64 8))) (fun e1=> .p (.c 1) (.d (ai .lss r 0) (fun e2=> .p (.c 8) (.lf (i64 8))) (fun e2=> .p (.c 1) (.d (ai .gtr r 1000000000) (fun e3=> .p (.c 5) (.lf (i64 8))) (fun e3=> .p (.c 1) (.d (ai .lss p 1) (fun e4=> .p (.c 2) (.lf (i64 8))) (fun e4=> .p (.c 1) (.d (ai .gtr p 1000000000) (fun e5=> .lf (i64 8)) (fun e5=> .lf (i64 0))))))))))))
theorem ag8 (b r p:Int):Leaves (fun l=>cu Try.prog (X8) 100000 l 46 [D.agg [i64 b,i64 r,i64 p]]) (xK b r p) [] []:=by refine⟨fun _=>?_,fun _=>⟨fun _=>?_,fun _=>⟨fun _=>?_,fun _=>⟨fun _=>?_,fun _=>⟨fun _=>?_,fun _=>⟨fun _=>?_,fun _=>?_⟩⟩⟩⟩⟩⟩<;>(show _=_;kernel_rfl)
theorem UF (b r p:Int) (res:D) (h0:At (fun r=>res=r) (xK b r p) [true] True) (h1:At (fun r=>res=r) (xK b r p) [false,true] True) (h2:At (fun r=>res=r) (xK b r p) [false,false,true] True) (h3:At (fun r=>res=r) (xK b r p) [false,false,false,true] True) (h4:At (fun r=>res=r) (xK b r p) [false,false,false,false,true] True) (h5:At (fun r=>res=r) (xK b r p) [false,false,false,false,false,true] True) (h6:At (fun r=>res=r) (xK b r p) [false,false,false,false,false,false] True):CallsD Try.prog 46 [D.agg [i64 b,i64 r,i64 p]] res:=au (Um) (ag8 b r p) ⟨fun e0=>h0 e0,fun e0=>⟨fun e1=>h1 e0 e1,fun e1=>⟨fun e2=>h2 e0 e1 e2,fun e2=>⟨fun e3=>h3 e0 e1 e2 e3,fun e3=>⟨fun e4=>h4 e0 e1 e2 e3 e4,fun e4=>⟨fun e5=>h5 e0 e1 e2 e3 e4 e5,fun e5=>h6 e0 e1 e2 e3 e4 e5⟩⟩⟩⟩⟩⟩
noncomputable def mM (b:Int) (r:Int) (p:Int) (v:Int) (q:Int) (t:Int):Tr D:= .d (ai .lss b 1) (fun e0=> .p (.c 15) (.lf (i64 8))) (fun e0=> .p (.c 1) (.d (ai .gtr b 1000000000) (fun e1=> .p (.c 12) (.lf (i64 8))) (fun e1=> .p (.c 1) (.d (ai .lss r 0) (fun e2=> .p (.c 9) (.lf (i64 8))) (fun e2=> .p (.c 1) (.d (ai .gtr r 1000000000) (fun e3=> .p (.c 6) (.lf (i64 8))) (fun e3=> .p (.c 1) (.d (ai .lss p 1) (fun e4=> .p (.c 3) (.lf (i64 8))) (fun e4=> .p (.c 1) (.d (ai .gtr p 1000000000) (fun e5=> .p (.c 0) (.lf (i64 8))) (fun e5=> .p (.c 0) (.d (ai .lss v 0) (fun e6=> .p (.c 14) (.lf (i64 8))) (fun e6=> .p (.c 0) (.d (ai .lss (aj .sub .i64 b v) 0) (fun e7=> .p (.c 12) (.lf (i64 8))) (fun e7=> .p (.c 1) (.d (ai .lss q 0) (fun e8=> .p (.c 9) (.lf (i64 8))) (fun e8=> .p (.c 4) (.d (ai .geq q p) (fun e9=> .p (.c 3) (.lf (i64 8))) (fun e9=> .p (.c 1) (.d (ai .eql (aj .sub .i64 b v) 0) (fun e10=> .p (.c 2) (.d (ai .gtr q 0) (fun e11=> .lf (i64 8)) (fun e11=> .lf (i64 0)))) (fun e10=> .p (.c 3) (.lf (i64 0)))))))))))))))))))))))
theorem ahr (b r p v q t:Int):Leaves (fun l=>cu Try.prog (X8) 100000 l 37 [D.agg [i64 b,i64 r,i64 p,i64 v,i64 q,u64 t]]) (mM b r p v q t) [] []:=by refine⟨fun _=>?_,fun _=>⟨fun _=>?_,fun _=>⟨fun _=>?_,fun _=>⟨fun _=>?_,fun _=>⟨fun _=>?_,fun _=>⟨fun _=>?_,fun _=>⟨fun _=>?_,fun _=>⟨fun _=>?_,fun _=>⟨fun _=>?_,fun _=>⟨fun _=>?_,fun _=>⟨fun _=>⟨fun _=>?_,fun _=>?_⟩,fun _=>?_⟩⟩⟩⟩⟩⟩⟩⟩⟩⟩⟩<;>(show _=_;kernel_rfl)
theorem VS (b r p v q t:Int) (res:D) (h0:At (fun r=>res=r) (mM b r p v q t) [true] True) (h1:At (fun r=>res=r) (mM b r p v q t) [false,true] True) (h2:At (fun r=>res=r) (mM b r p v q t) [false,false,true] True) (h3:At (fun r=>res=r) (mM b r p v q t) [false,false,false,true] True) (h4:At (fun r=>res=r) (mM b r p v q t) [false,false,false,false,true] True) (h5:At (fun r=>res=r) (mM b r p v q t) [false,false,false,false,false,true] True) (h6:At (fun r=>res=r) (mM b r p v q t) [false,false,false,false,false,false,true] True) (h7:At (fun r=>res=r) (mM b r p v q t) [false,false,false,false,false,false,false,true] True) (h8:At (fun r=>res=r) (mM b r p v q t) [false,false,false,false,false,false,false,false,true] True) (h9:At (fun r=>res=r) (mM b r p v q t) [false,false,false,false,false,false,false,false,false,true] True) (h10:At (fun r=>res=r) (mM b r p v q t) [false,false,false,false,false,false,false,false,false,false,true,true] True) (h11:At (fun r=>res=r) (mM b r p v q t) [false,false,false,false,false,false,false,false,false,false,true,false] True) (h12:At (fun r=>res=r) (mM b r p v q t) [false,false,false,false,false,false,false,false,false,false,false] True):CallsD Try.prog 37 [D.agg [i64 b,i64 r,i64 p,i64 v,i64 q,u64 t]] res:=au (Um) (ahr b r p v q t) ⟨fun e0=>h0 e0,fun e0=>⟨fun e1=>h1 e0 e1,fun e1=>⟨fun e2=>h2 e0 e1 e2,fun e2=>⟨fun e3=>h3 e0 e1 e2 e3,fun e3=>⟨fun e4=>h4 e0 e1 e2 e3 e4,fun e4=>⟨fun e5=>h5 e0 e1 e2 e3 e4 e5,fun e5=>⟨fun e6=>h6 e0 e1 e2 e3 e4 e5 e6,fun e6=>⟨fun e7=>h7 e0 e1 e2 e3 e4 e5 e6 e7,fun e7=>⟨fun e8=>h8 e0 e1 e2 e3 e4 e5 e6 e7 e8,fun e8=>⟨fun e9=>h9 e0 e1 e2 e3 e4 e5 e6 e7 e8 e9,fun e9=>⟨fun e10=>⟨fun e11=>h10 e0 e1 e2 e3 e4 e5 e6 e7 e8 e9 e10 e11,fun e11=>h11 e0 e1 e2 e3 e4 e5 e6 e7 e8 e9 e10 e11⟩,fun e10=>h12 e0 e1 e2 e3 e4 e5 e6 e7 e8 e9 e10⟩⟩⟩⟩⟩⟩⟩⟩⟩⟩⟩
noncomputable def lJ (b:Int) (r:Int) (p:Int) (v:Int) (q:Int) (t:Int):Tr D:= .d (ai .lss b 1) (fun e0=> .p (.c 41) (.lf (i64 8))) (fun e0=> .p (.c 1) (.d (ai .gtr b 1000000000) (fun e1=> .p (.c 38) (.lf (i64 8))) (fun e1=> .p (.c 1) (.d (ai .lss r 0) (fun e2=> .p (.c 35) (.lf (i64 8))) (fun e2=> .p (.c 1) (.d (ai .gtr r 1000000000) (fun e3=> .p (.c 32) (.lf (i64 8))) (fun e3=> .p (.c 1) (.d (ai .lss p 1) (fun e4=> .p (.c 29) (.lf (i64 8))) (fun e4=> .p (.c 1) (.d (ai .gtr p 1000000000) (fun e5=> .p (.c 26) (.lf (i64 8))) (fun e5=> .p (.c 2) (.d (ai .lss v 0) (fun e6=> .p (.c 22) (.lf (i64 8))) (fun e6=> .p (.c 4) (.d (ai .gtr v b) (fun e7=> .p (.c 16) (.lf (i64 8))) (fun e7=> .p (.c 1) (.d (ai .lss q 0) (fun e8=> .p (.c 13) (.lf (i64 8))) (fun e8=> .p (.c 4) (.d (ai .geq q p) (fun e9=> .p (.c 7) (.lf (i64 8))) (fun e9=> .p (.c 5) (.d (ai .eql v b) (fun e10=> .p (.c 2) (.d (ai .neq q 0) (fun e11=> .lf (i64 8)) (fun e11=> .lf (i64 0)))) (fun e10=> .p (.c 3) (.lf (i64 0)))))))))))))))))))))))
theorem aiG (b r p v q t:Int):Leaves (fun l=>cu Try.prog (X8) 100000 l 43 [D.agg [i64 b,i64 r,i64 p,i64 v,i64 q,u64 t]]) (lJ b r p v q t) [] []:=by refine⟨fun _=>?_,fun _=>⟨fun _=>?_,fun _=>⟨fun _=>?_,fun _=>⟨fun _=>?_,fun _=>⟨fun _=>?_,fun _=>⟨fun _=>?_,fun _=>⟨fun _=>?_,fun _=>⟨fun _=>?_,fun _=>⟨fun _=>?_,fun _=>⟨fun _=>?_,fun _=>⟨fun _=>⟨fun _=>?_,fun _=>?_⟩,fun _=>?_⟩⟩⟩⟩⟩⟩⟩⟩⟩⟩⟩<;>(show _=_;kernel_rfl)
theorem Vs (b r p v q t:Int) (res:D) (h0:At (fun r=>res=r) (lJ b r p v q t) [true] True) (h1:At (fun r=>res=r) (lJ b r p v q t) [false,true] True) (h2:At (fun r=>res=r) (lJ b r p v q t) [false,false,true] True) (h3:At (fun r=>res=r) (lJ b r p v q t) [false,false,false,true] True) (h4:At (fun r=>res=r) (lJ b r p v q t) [false,false,false,false,true] True) (h5:At (fun r=>res=r) (lJ b r p v q t) [false,false,false,false,false,true] True) (h6:At (fun r=>res=r) (lJ b r p v q t) [false,false,false,false,false,false,true] True) (h7:At (fun r=>res=r) (lJ b r p v q t) [false,false,false,false,false,false,false,true] True) (h8:At (fun r=>res=r) (lJ b r p v q t) [false,false,false,false,false,false,false,false,true] True) (h9:At (fun r=>res=r) (lJ b r p v q t) [false,false,false,false,false,false,false,false,false,true] True) (h10:At (fun r=>res=r) (lJ b r p v q t) [false,false,false,false,false,false,false,false,false,false,true,true] True) (h11:At (fun r=>res=r) (lJ b r p v q t) [false,false,false,false,false,false,false,false,false,false,true,false] True) (h12:At (fun r=>res=r) (lJ b r p v q t) [false,false,false,false,false,false,false,false,false,false,false] True):CallsD Try.prog 43 [D.agg [i64 b,i64 r,i64 p,i64 v,i64 q,u64 t]] res:=au (Um) (aiG b r p v q t) ⟨fun e0=>h0 e0,fun e0=>⟨fun e1=>h1 e0 e1,fun e1=>⟨fun e2=>h2 e0 e1 e2,fun e2=>⟨fun e3=>h3 e0 e1 e2 e3,fun e3=>⟨fun e4=>h4 e0 e1 e2 e3 e4,fun e4=>⟨fun e5=>h5 e0 e1 e2 e3 e4 e5,fun e5=>⟨fun e6=>h6 e0 e1 e2 e3 e4 e5 e6,fun e6=>⟨fun e7=>h7 e0 e1 e2 e3 e4 e5 e6 e7,fun e7=>⟨fun e8=>h8 e0 e1 e2 e3 e4 e5 e6 e7 e8,fun e8=>⟨fun e9=>h9 e0 e1 e2 e3 e4 e5 e6 e7 e8 e9,fun e9=>⟨fun e10=>⟨fun e11=>h10 e0 e1 e2 e3 e4 e5 e6 e7 e8 e9 e10 e11,fun e11=>h11 e0 e1 e2 e3 e4 e5 e6 e7 e8 e9 e10 e11⟩,fun e10=>h12 e0 e1 e2 e3 e4 e5 e6 e7 e8 e9 e10⟩⟩⟩⟩⟩⟩⟩⟩⟩⟩⟩
noncomputable def Yr (kx:List Int) (px:List Int) (ux:List Bool) (k:Int):Tr D:= .s (okI kx) (.d (ai .neq (BR kx px ux) 0) (fun e0=> .lf (D.bF [i64 0,i64 (BR kx px ux)])) (fun e0=> .s (YG kx ux k) (.s (decide ((oP kx ux k:Int)<(kx.length:Int))=true) (.s (decide ((0:Int)≤(oP kx ux k:Int))=true) (.d (!ux.getD (oP kx ux k:Int).toNat false) (fun e1=> .lf (D.bF [i64 0,i64 6])) (fun e1=> .s (decide ((oP kx ux k:Int)<(kx.length:Int))=true) (.s (decide ((0:Int)≤(oP kx ux k:Int))=true) (.lf (D.bF [i64 (px.getD (oP kx ux k:Int).toNat 0),i64 0])))))))))
theorem ajL (kx px:List Int) (ux:List Bool) (k:Int):Leaves (fun l=>cu Try.prog (X8) 100000 l 61 [cc kx px ux,u32 k]) (Yr kx px ux k) [] []:=by refine⟨fun _=>?_,fun _=>⟨fun _=>?_,fun _=>?_⟩⟩<;>(show _=_;kernel_rfl)
theorem YW (kx px:List Int) (ux:List Bool) (k:Int) (res:D) (h0:At (fun r=>res=r) (Yr kx px ux k) [true] True) (h1:At (fun r=>res=r) (Yr kx px ux k) [false,true] True) (h2:At (fun r=>res=r) (Yr kx px ux k) [false,false] True):CallsD Try.prog 61 [cc kx px ux,u32 k] res:=au (Um) (ajL kx px ux k) ⟨fun e0=>h0 e0,fun e0=>⟨fun e1=>h1 e0 e1,fun e1=>h2 e0 e1⟩⟩
noncomputable def JD (nx:List Int) (us:List Bool) (f:Int):Tr D:= .d (ai .gtr (nx.length:Int) 100) (fun e0=> .p (.c 2) (.lf (bo true))) (fun e0=> .p (.c 2) (.lf (D.v (Value.bool (ai .gtr (us.length:Int) 100)))))
theorem afm (nx:List Int) (us:List Bool) (f:Int):Leaves (fun l=>cu Try.prog (X8) 100000 l 33 [D.agg [ri nx,rb us,i64 f]]) (JD nx us f) [] []:=by refine⟨fun _=>?_,fun _=>?_⟩<;>(show _=_;kernel_rfl)
theorem QZ (nx:List Int) (us:List Bool) (f:Int) (res:D) (h0:At (fun r=>res=r) (JD nx us f) [true] True) (h1:At (fun r=>res=r) (JD nx us f) [false] True):CallsD Try.prog 33 [D.agg [ri nx,rb us,i64 f]] res:=au (Um) (afm nx us f) ⟨fun e0=>h0 e0,fun e0=>h1 e0⟩
noncomputable def Ko (ps:List Int) (nx:List Int) (h:Int) (t:Int):Tr D:= .d (ai .gtr (ps.length:Int) 100) (fun e0=> .p (.c 2) (.lf (bo true))) (fun e0=> .p (.c 2) (.lf (D.v (Value.bool (ai .gtr (nx.length:Int) 100)))))
theorem aeW (ps nx:List Int) (h t:Int):Leaves (fun l=>cu Try.prog (X8) 100000 l 34 [D.agg [ri ps,ri nx,i64 h,i64 t]]) (Ko ps nx h t) [] []:=by refine⟨fun _=>?_,fun _=>?_⟩<;>(show _=_;kernel_rfl)
theorem QW (ps nx:List Int) (h t:Int) (res:D) (h0:At (fun r=>res=r) (Ko ps nx h t) [true] True) (h1:At (fun r=>res=r) (Ko ps nx h t) [false] True):CallsD Try.prog 34 [D.agg [ri ps,ri nx,i64 h,i64 t]] res:=au (Um) (aeW ps nx h t) ⟨fun e0=>h0 e0,fun e0=>h1 e0⟩
def iV (b r p:Int):Int:=if 1≤b∧b≤1000000000∧0≤r∧r≤1000000000∧1≤p∧p≤1000000000 then 0 else 8
def wM (b r p v q:Int):Int:=if 1≤b∧b≤1000000000∧0≤r∧r≤1000000000∧1≤p∧p≤1000000000∧0≤v∧v≤b∧0≤q∧q<p∧¬ (v=b∧0<q) then 0 else 8
theorem adY (b r p:Int):CallsD Try.prog 40 [.agg [i64 b,i64 r,i64 p]] (i64 (iV b r p)):=by
 refine U2 b r p _ ?_ ?_ ?_ ?_ ?_ ?_ ?_<;>dsimp only[At,Tr.q,wS]
 all_goals
  intros
  simp only[aQ,aX,dV,gI,iQ,iP,iM,je,aP,aY] at *
  refine⟨trivial,?_⟩
  unfold iV
  simp only[D.v.injEq,Value.int.injEq,true_and]
  split<;>omega
theorem ae0 (b r p:Int):CallsD Try.prog 46 [.agg [i64 b,i64 r,i64 p]] (i64 (iV b r p)):=by
 refine UF b r p _ ?_ ?_ ?_ ?_ ?_ ?_ ?_<;>dsimp only[At,Tr.q,xK]
 all_goals
  intros
  simp only[aQ,aX,dV,gI,iQ,iP,iM,je,aP,aY] at *
  refine⟨trivial,?_⟩
  unfold iV
  simp only[D.v.injEq,Value.int.injEq,true_and]
  split<;>omega
def jV (v:Int):Prop:=-9223372036854775808≤v∧v<9223372036854775808
theorem ad3 (b r p v q t:Int) (hv:jV v):CallsD Try.prog 37 [.agg [i64 b,i64 r,i64 p,i64 v,i64 q,u64 t]] (i64 (wM b r p v q)):=by
 obtain⟨v0,v1⟩:=hv
 have hs:1≤b→b≤1000000000→0≤v→aj .sub .i64 b v=b - v:=fun a c d=>by
  rw[eY,aT (by omega) (by omega)]
 refine VS b r p v q t _ ?_ ?_ ?_ ?_ ?_ ?_ ?_ ?_ ?_ ?_ ?_ ?_ ?_<;>dsimp only[At,Tr.q,mM]
 all_goals
  intros
  simp only[aQ,aX,dV,gI,iQ,iP,iM,je,aP,aY] at *
  refine⟨trivial,?_⟩
  unfold wM
  simp only[D.v.injEq,Value.int.injEq,true_and]
  split<;>omega
theorem aft (b r p v q t:Int):CallsD Try.prog 43 [.agg [i64 b,i64 r,i64 p,i64 v,i64 q,u64 t]] (i64 (wM b r p v q)):=by
 refine Vs b r p v q t _ ?_ ?_ ?_ ?_ ?_ ?_ ?_ ?_ ?_ ?_ ?_ ?_ ?_<;>dsimp only[At,Tr.q,lJ]
 all_goals
  intros
  simp only[aQ,aX,dV,gI,iQ,iP,iM,je,aP,aY] at *
  refine⟨trivial,?_⟩
  unfold wM
  simp only[D.v.injEq,Value.int.injEq,true_and]
  split<;>omega
def U3 (kx px:List Int) (ux:List Bool) (k:Int):Int:=if BR kx px ux=0 then(if ux.getD (oP kx ux k) false=true then px.getD (oP kx ux k) 0 else 0) else 0
def U4 (kx px:List Int) (ux:List Bool) (k:Int):Int:=if BR kx px ux=0 then(if ux.getD (oP kx ux k) false=true then 0 else 6) else 8
theorem aa7 (kx px:List Int) (ux:List Bool):BR kx px ux=0∨BR kx px ux=8:=by unfold BR;split<;>(try split)<;>simp
theorem JC {kx px:List Int} {ux:List Bool} (h:BR kx px ux=0):kx.length=16∧iL 16 ux≤12∧∀ i,i<16→qy kx px ux i=false:=by
 unfold BR at h;split at h
 next c=>
  split at h
  next d=>exact⟨c.1,c.2,fun i hi=>(dM 16 0).1 d i (by omega) (by omega)⟩
  next=>cases h
 next=>cases h
theorem Qs {kx:List Int} (ux:List Bool) {k:Int} (h:vk k):oP kx ux k<16:=by
 have hh:=mg h
 exact(QJ (xs:=kx) (zs:=ux) (k:=k) 16 (dn k).toNat 0 (by omega)).1
theorem agP (kx px:List Int) (ux:List Bool) (k:Int) (h:okI kx∧vk k):CallsD Try.prog 61 [cc kx px ux,u32 k] (.bF [i64 (U3 kx px ux k),i64 (U4 kx px ux k)]):=by
 obtain⟨h,hk⟩:=h
 have hp:=aa7 kx px ux
 have hlt:=Qs (kx:=kx) ux hk
 have side:BR kx px ux=0→YG kx ux k∧kx.length=16:=fun e=>by
  obtain⟨c1,c2,_⟩:=JC e
  exact⟨⟨c1,hk,lY (by omega)⟩,c1⟩
 refine YW kx px ux k _ ?_ ?_ ?_<;>dsimp only[At,Tr.q,Yr]
 ·intro g;rw[aP] at g
  refine⟨⟨h,trivial⟩,?_⟩
  unfold U3 U4;rw[if_neg g,if_neg g]
  have:BR kx px ux=8:=by omega
  rw[this]
 ·intro g g2
  rw[aY] at g
  obtain⟨s1,s2⟩:=side g
  have b:=ay (n:=kx.length) (i:=oP kx ux k) (by omega)
  refine⟨⟨b.1,b.2,s1,h,trivial⟩,?_⟩
  rw[Int.toNat_natCast] at g2
  have g3:ux.getD (oP kx ux k) false=false:=by simpa using g2
  unfold U3 U4;rw[if_pos g,if_pos g,g3];rfl
 ·intro g g2
  rw[aY] at g
  obtain⟨s1,s2⟩:=side g
  have b:=ay (n:=kx.length) (i:=oP kx ux k) (by omega)
  refine⟨⟨b.1,b.2,b.1,b.2,s1,h,trivial⟩,?_⟩
  rw[Int.toNat_natCast] at g2
  have g3:ux.getD (oP kx ux k) false=true:=by simpa using g2
  unfold U3 U4;rw[if_pos g,if_pos g,if_pos g3,if_pos g3,Int.toNat_natCast]
def UE (n m:Nat):Bool:=decide (100<n) || decide (100<m)
theorem mr (n:Nat):ai .gtr (n:Int) 100=decide (100<n):=by
 rw[Bool.eq_iff_iff,dV,decide_eq_true_eq];omega
theorem abp (nx:List Int) (us:List Bool) (f:Int):CallsD Try.prog 33 [.agg [ri nx,rb us,i64 f]] (bo (UE nx.length us.length)):=by
 refine QZ nx us f _ ?_ ?_<;>dsimp only[At,Tr.q,JD]
 ·intro g;rw[mr] at g;exact⟨trivial,by unfold UE;rw[g];rfl⟩
 ·intro g;rw[mr] at g;exact⟨trivial,by unfold UE;rw[mr,g];rfl⟩
theorem abr (ps nx:List Int) (h t:Int):CallsD Try.prog 34 [.agg [ri ps,ri nx,i64 h,i64 t]] (bo (UE ps.length nx.length)):=by
 refine QW ps nx h t _ ?_ ?_<;>dsimp only[At,Tr.q,Ko]
 ·intro g;rw[mr] at g;exact⟨trivial,by unfold UE;rw[g];rfl⟩
 ·intro g;rw[mr] at g;exact⟨trivial,by unfold UE;rw[mr,g];rfl⟩
def lmC:List D→Option (D×List Prop)
 |[.agg [.v (.int .i64 b), .v (.int .i64 r), .v (.int .i64 p)]]=>some (i64 (iV b r p),[])
 |_=>none
theorem aaA (args res l) (h:lmC args=some (res,l)) (hl:aI l):CallsD Try.prog 40 args res:=by
 unfold lmC at h;split at h
 ·simp only[Option.some.injEq,Prod.mk.injEq] at h
  obtain⟨rfl,rfl⟩:=h
  exact adY _ _ _
 ·cases h
theorem aak (args res l) (h:lmC args=some (res,l)) (hl:aI l):CallsD Try.prog 46 args res:=by
 unfold lmC at h;split at h
 ·simp only[Option.some.injEq,Prod.mk.injEq] at h
  obtain⟨rfl,rfl⟩:=h
  exact ae0 _ _ _
 ·cases h
def bkC:List D→Option (D×List Prop)
 |[.agg [.v (.int .i64 b), .v (.int .i64 r), .v (.int .i64 p), .v (.int .i64 v), .v (.int .i64 q), .v (.int .u64 t)]]=>some (i64 (wM b r p v q),[jV v])
 |_=>none
theorem aeH (args res l) (h:bkC args=some (res,l)) (hl:aI l):CallsD Try.prog 37 args res:=by
 unfold bkC at h;split at h
 ·simp only[Option.some.injEq,Prod.mk.injEq] at h
  obtain⟨rfl,rfl⟩:=h;obtain⟨h0,_⟩:=hl
  exact ad3 _ _ _ _ _ _ h0
 ·cases h
def bkD:List D→Option (D×List Prop)
 |[.agg [.v (.int .i64 b), .v (.int .i64 r), .v (.int .i64 p), .v (.int .i64 v), .v (.int .i64 q), .v (.int .u64 t)]]=>some (i64 (wM b r p v q),[])
 |_=>none
theorem aeb (args res l) (h:bkD args=some (res,l)) (hl:aI l):CallsD Try.prog 43 args res:=by
 unfold bkD at h;split at h
 ·simp only[Option.some.injEq,Prod.mk.injEq] at h
  obtain⟨rfl,rfl⟩:=h
  exact aft _ _ _ _ _ _
 ·cases h
def fdC:List D→Option (D×List Prop)
 |[.rc [.ints .u32 kx, .ints .i64 px, .bools ux], .v (.int .u32 k)]=>some ((.bF [i64 (U3 kx px ux k),i64 (U4 kx px ux k)]),[okI kx∧vk k])
 |_=>none
theorem adK (args res l) (h:fdC args=some (res,l)) (hl:aI l):CallsD Try.prog 61 args res:=by
 unfold fdC at h;split at h
 ·simp only[Option.some.injEq,Prod.mk.injEq] at h
  obtain⟨rfl,rfl⟩:=h;obtain⟨h0,_⟩:=hl
  exact agP _ _ _ _ h0
 ·cases h
def WV:List D→Option (D×List Prop)
 |[.agg [.rc [.ints .i64 nx], .rc [.bools us], .v (.int .i64 f)]]=>some (bo (UE nx.length us.length),[])
 |_=>none
theorem Zl (args res l) (h:WV args=some (res,l)) (hl:aI l):CallsD Try.prog 33 args res:=by
 unfold WV at h;split at h
 ·simp only[Option.some.injEq,Prod.mk.injEq] at h
  obtain⟨rfl,rfl⟩:=h
  exact abp _ _ _
 ·cases h
def Zm:List D→Option (D×List Prop)
 |[.agg [.rc [.ints .i64 ps], .rc [.ints .i64 nx], .v (.int .i64 h), .v (.int .i64 t)]]=>some (bo (UE ps.length nx.length),[])
 |_=>none
theorem WX (args res l) (h:Zm args=some (res,l)) (hl:aI l):CallsD Try.prog 34 args res:=by
 unfold Zm at h;split at h
 ·simp only[Option.some.injEq,Prod.mk.injEq] at h
  obtain⟨rfl,rfl⟩:=h
  exact abr _ _ _ _
 ·cases h
def X9:aB:=aJ 40 (.call lmC) (aJ 46 (.call lmC) (aJ 37 (.call bkC) (aJ 43 (.call bkD) (aJ 61 (.call fdC) (aJ 33 (.call WV) (aJ 34 (.call Zm) X8))))))
theorem LX:bG Try.prog X9:=ax aaA (ax aak (ax aeH (ax aeb (ax adK (ax Zl (ax WX Um))))))
abbrev kr (x1 x2 x3 x4 x5 x6:List Int):D:= .rc [.ints .i64 x1, .ints .i64 x2, .ints .i64 x3, .ints .i64 x4, .ints .i64 x5, .ints .u64 x6]
abbrev tbD (n:Int) (ks x1 x2 x3 x4 x5 x6 nx:List Int) (us:List Bool) (fr:Int) (kx px:List Int) (ux:List Bool) (ps no:List Int) (h t:Int):D:= .agg [i64 n,ru ks,kr x1 x2 x3 x4 x5 x6,ri nx,rb us,i64 fr,cc kx px ux,ri ps,ri no,i64 h,i64 t]
end TableS
end

section
namespace TableS
open Go Go.Dam Go.Proofs
set_option maxRecDepth 1000000
structure Tb where
 n:Int
 ks:List Int
 x1:List Int
 x2:List Int
 x3:List Int
 x4:List Int
 x5:List Int
 x6:List Int
 nx:List Int
 us:List Bool
 fr:Int
 kx:List Int
 px:List Int
 ux:List Bool
 ps:List Int
 no:List Int
 h:Int
 t:Int
abbrev Tb.d (T:Tb):D:=tbD T.n T.ks T.x1 T.x2 T.x3 T.x4 T.x5 T.x6 T.nx T.us T.fr T.kx T.px T.ux T.ps T.no T.h T.t
noncomputable def Tb.b (T:Tb):BX:=BX.cells [i64 T.n,ru T.ks,kr T.x1 T.x2 T.x3 T.x4 T.x5 T.x6,ri T.nx,rb T.us,i64 T.fr,cc T.kx T.px T.ux,ri T.ps,ri T.no,i64 T.h,i64 T.t] false
noncomputable def kS (T:Tb) (o u:Int) (m:Nat) (g i:Int) (l:List Int):Cs:=⟨TT.of [(1,D.ptr 32 0),(2,i64 o),(5,D.sl 1952 0 m ⟨1,0⟩),(7,i64 u),(68,rb T.us),(69,i64 g),(70,i64 i)],147,[],[(32,T.b),(1952,BX.row [.ints .i64 l] false)],none,0⟩
noncomputable def jv (T:Tb) (o:Int) (m:Nat) (i:Int) (l:List Int):Cs:=⟨TT.of [(1,D.ptr 32 0),(2,i64 o),(3,D.sl 2208 0 m ⟨1,0⟩),(5,i64 i)],160,[],[(32,T.b),(2208,BX.row [.ints .i64 l] false)],none,0⟩
noncomputable def vX (T:Tb) (o u g i:Int):Cs:=⟨TT.of [(2,i64 o),(7,i64 u),(134,cc T.kx T.px T.ux),(135,i64 g),(136,i64 i)],147,[],[],none,0⟩
end TableS
end

section
namespace TableS
open Go Go.Dam Go.Proofs
set_option maxRecDepth 1000000
structure Pt where
 te:Int
 b0:Int
 r0:Int
 p0:Int
 b1:Int
 r1:Int
 p1:Int
 b2:Int
 r2:Int
 p2:Int
 ob:Int
 orr:Int
 op:Int
 ov:Int
 oq:Int
 oa:Int
 U:Tb
 E:Tb
 rv:List Int
 ta:Int
 tl:Int
 tc:Int
abbrev uI (b0 r0 p0 b1 r1 p1 b2 r2 p2:Int):D:= .agg [i64 b0,i64 r0,i64 p0,i64 b1,i64 r1,i64 p1,i64 b2,i64 r2,i64 p2]
def Pt.d (Q:Pt):D:= .agg [u32 Q.te,i64 Q.b0,i64 Q.r0,i64 Q.p0,i64 Q.b1,i64 Q.r1,i64 Q.p1,i64 Q.b2,i64 Q.r2,i64 Q.p2,i64 Q.ob,i64 Q.orr,i64 Q.op,i64 Q.ov,i64 Q.oq,u64 Q.oa,
 i64 Q.U.n,ru Q.U.ks,kr Q.U.x1 Q.U.x2 Q.U.x3 Q.U.x4 Q.U.x5 Q.U.x6,ri Q.U.nx,rb Q.U.us,i64 Q.U.fr,cc Q.U.kx Q.U.px Q.U.ux,ri Q.U.ps,ri Q.U.no,i64 Q.U.h,i64 Q.U.t,
 i64 Q.E.n,ru Q.E.ks,kr Q.E.x1 Q.E.x2 Q.E.x3 Q.E.x4 Q.E.x5 Q.E.x6,ri Q.E.nx,rb Q.E.us,i64 Q.E.fr,cc Q.E.kx Q.E.px Q.E.ux,ri Q.E.ps,ri Q.E.no,i64 Q.E.h,i64 Q.E.t,
 ru Q.rv,u64 Q.ta,u64 Q.tl,u64 Q.tc]
end TableS
end

section
namespace TableS
open Go Go.Dam Go.Proofs
set_option maxRecDepth 1000000
noncomputable def Q5 (xs:List Int) (u o:Int) (c:Bool) (n i j:Int):Cs:=⟨TT.of [(0,ru xs),(1,u32 u),(4,i64 o),(5,bo c),(6,i64 n),(7,i64 i),(8,i64 j)],54,[],[],none,0⟩
noncomputable def LC (xs:List Int) (u o m i:Int):Cs:=⟨TT.of [(0,ru xs),(1,u32 u),(4,i64 o),(7,i64 m),(8,i64 i)],19,[],[],none,0⟩
end TableS
end
