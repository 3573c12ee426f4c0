/- What the functions compute, and the law. No condition. -/
import Derived.Test.YtfoelbdkgaliaaaPaTL
set_option linter.unusedSectionVars false
set_option linter.unusedVariables false
set_option linter.unusedSimpArgs false
section
namespace TableS
open Go Go.Dam Go.Proofs
set_option maxRecDepth 1000000
noncomputable def yD (r:Int) (n:Int) (la:Int) (i:Int) (k:Nat) (ps:List Int) (nx:List Int) (h:Int) (t:Int) (ys:List Bool):Tr (Ex×Cs):= .d (ai .neq i (-1)) (fun e0=> .d (ai .lss i 0) (fun e1=> .p (.c 13) (.lf (Ex.ret,(uT (8) (n) (la) (i) (k) (ps) (nx) (h) (t) (ys))))) (fun e1=> .p (.c 1) (.d (ai .geq i n) (fun e2=> .p (.c 10) (.lf (Ex.ret,(uT (8) (n) (la) (i) (k) (ps) (nx) (h) (t) (ys))))) (fun e2=> .p (.c 2) (.s (decide (i< ↑k)=true) (.s (decide (0≤i)=true) (.s (i.toNat<ys.length) (.d (ys.getD i.toNat false) (fun e3=> .p (.c 6) (.lf (Ex.ret,(uT (8) (n) (la) (i) (k) (ps) (nx) (h) (t) (ys))))) (fun e3=> .p (.c 5) (.s (decide (i<(ps.length:Int))=true) (.s (decide (0≤i)=true) (.d (ai .neq (ps.getD i.toNat 0) la) (fun e4=> .lf (Ex.ret,(uT (8) (n) (la) (i) (k) (ps) (nx) (h) (t) (ys)))) (fun e4=> .s (decide (i< ↑k)=true) (.s (decide (0≤i)=true) (.s (ys.length=ys.length) (.s (i.toNat<ys.length) (.s (decide (i< ↑(nx.length))=true) (.s (decide (0≤i)=true) (.lf (Ex.normal,(uT (r) (n) (i) (nx.getD i.toNat 0) (k) (ps) (nx) (h) (t) (ys.set i.toNat true)))))))))))))))))))))) (fun e0=> .lf (Ex.exit 0,(uT (r) (n) (la) (i) (k) (ps) (nx) (h) (t) (ys))))
theorem ahN (r n la i:Int) (k:Nat) (ps nx:List Int) (h t:Int) (ys:List Bool):Leaves (bT Try.prog (X2) 100000 (af Try.prog 87 0) [[1,2,3,4,5,6]] [(32,32),(832,832)] (uT r n la i k ps nx h t ys)) (yD r n la i k ps nx h t ys) [] []:=by refine⟨fun _=>⟨fun _=>?_,fun _=>⟨fun _=>?_,fun _=>⟨fun _=>?_,fun _=>⟨fun _=>?_,fun _=>?_⟩⟩⟩⟩,fun _=>?_⟩<;>(show _=_;kernel_rfl)
theorem Fz (r:Int) (n:Int) (la:Int) (i:Int) (k:Nat) (ps:List Int) (nx:List Int) (h:Int) (t:Int) (ys:List Bool) (σ:St) (e:Ex) (h0:At (RG Try.prog (af Try.prog 87 0) e σ) (yD r n la i k ps nx h t ys) [true,true] True) (h1:At (RG Try.prog (af Try.prog 87 0) e σ) (yD r n la i k ps nx h t ys) [true,false,true] True) (h2:At (RG Try.prog (af Try.prog 87 0) e σ) (yD r n la i k ps nx h t ys) [true,false,false,true] True) (h3:At (RG Try.prog (af Try.prog 87 0) e σ) (yD r n la i k ps nx h t ys) [true,false,false,false,true] True) (h4:At (RG Try.prog (af Try.prog 87 0) e σ) (yD r n la i k ps nx h t ys) [true,false,false,false,false] True) (h5:At (RG Try.prog (af Try.prog 87 0) e σ) (yD r n la i k ps nx h t ys) [false] True):Runs Try.prog (CallsD Try.prog) (.rounds (af Try.prog 87 0)) (uT r n la i k ps nx h t ys).abs e σ:=aO (hX2) (ahN r n la i k ps nx h t ys) ⟨fun e0=>⟨fun e1=>h0 e0 e1,fun e1=>⟨fun e2=>h1 e0 e1 e2,fun e2=>⟨fun e3=>h2 e0 e1 e2 e3,fun e3=>⟨fun e4=>h3 e0 e1 e2 e3 e4,fun e4=>h4 e0 e1 e2 e3 e4⟩⟩⟩⟩,fun e0=>h5 e0⟩
noncomputable def BQ (r la:Int) (k:Nat) (m i:Int) (ps nx:List Int) (h t:Int) (ys:List Bool):=qx (r) (la) (k) (m) (aj .add .i64 i 1) (ps) (nx) (h) (t) (ys)
noncomputable def sJ (r:Int) (la:Int) (k:Nat) (m:Int) (i:Int) (ps:List Int) (nx:List Int) (h:Int) (t:Int) (ys:List Bool):Tr (Ex×Cs):= .d (ai .lss i m) (fun e0=> .s (decide (i< ↑k)=true) (.s (decide (0≤i)=true) (.s (i.toNat<ys.length) (.d (!ys.getD i.toNat false) (fun e1=> .p (.c 5) (.s (decide (i<(ps.length:Int))=true) (.s (decide (0≤i)=true) (.d (ai .neq (ps.getD i.toNat 0) (-1)) (fun e2=> .p (.c 6) (.lf (Ex.ret,(qx (8) (la) (k) (m) (i) (ps) (nx) (h) (t) (ys))))) (fun e2=> .p (.c 5) (.s (decide (i< ↑(nx.length))=true) (.s (decide (0≤i)=true) (.d (ai .neq (nx.getD i.toNat 0) (-1)) (fun e3=> .lf (Ex.ret,(qx (8) (la) (k) (m) (i) (ps) (nx) (h) (t) (ys)))) (fun e3=> .lf (Ex.normal,(BQ r la k m i ps nx h t ys))))))))))) (fun e1=> .p (.c 7) (.lf (Ex.normal,(BQ r la k m i ps nx h t ys)))))))) (fun e0=> .lf (Ex.exit 2,(qx (r) (la) (k) (m) (i) (ps) (nx) (h) (t) (ys))))
theorem adr (r la:Int) (k:Nat) (m i:Int) (ps nx:List Int) (h t:Int) (ys:List Bool):Leaves (bT Try.prog (X2) 100000 (af Try.prog 87 1) [[1,2,5,62,63,64]] [(32,32),(832,832)] (qx r la k m i ps nx h t ys)) (sJ r la k m i ps nx h t ys) [] []:=by refine⟨fun _=>⟨fun _=>⟨fun _=>?_,fun _=>⟨fun _=>?_,fun _=>?_⟩⟩,fun _=>?_⟩,fun _=>?_⟩<;>(show _=_;kernel_rfl)
theorem zy (r:Int) (la:Int) (k:Nat) (m:Int) (i:Int) (ps:List Int) (nx:List Int) (h:Int) (t:Int) (ys:List Bool) (σ:St) (e:Ex) (h0:At (RG Try.prog (af Try.prog 87 1) e σ) (sJ r la k m i ps nx h t ys) [true,true,true] True) (h1:At (RG Try.prog (af Try.prog 87 1) e σ) (sJ r la k m i ps nx h t ys) [true,true,false,true] True) (h2:At (RG Try.prog (af Try.prog 87 1) e σ) (sJ r la k m i ps nx h t ys) [true,true,false,false] True) (h3:At (RG Try.prog (af Try.prog 87 1) e σ) (sJ r la k m i ps nx h t ys) [true,false] True) (h4:At (RG Try.prog (af Try.prog 87 1) e σ) (sJ r la k m i ps nx h t ys) [false] True):Runs Try.prog (CallsD Try.prog) (.rounds (af Try.prog 87 1)) (qx r la k m i ps nx h t ys).abs e σ:=aO (hX2) (adr r la k m i ps nx h t ys) ⟨fun e0=>⟨fun e1=>⟨fun e2=>h0 e0 e1 e2,fun e2=>⟨fun e3=>h1 e0 e1 e2 e3,fun e3=>h2 e0 e1 e2 e3⟩⟩,fun e1=>h3 e0 e1⟩,fun e0=>h4 e0⟩
noncomputable def AU (r:Int) (la:Int) (k:Nat) (m:Int) (i:Int) (ps:List Int) (nx:List Int) (h:Int) (t:Int) (ys:List Bool):Tr D:= .d (ai .lss ((ps.length:Int)) 1) (fun e0=> .p (.c 6) (.lf (i64 8))) (fun e0=> .p (.c 0) (.d (ai .gtr ((ps.length:Int)) 16) (fun e1=> .p (.c 4) (.lf (i64 8))) (fun e1=> .p (.c 3) (.d (ai .neq ↑(nx.length) (ps.length:Int)) (fun e2=> .lf (i64 8)) (fun e2=> .p (.l [[1,2,3,4,5,6]] [(32,32),(832,832)] (uT 0 ((ps.length:Int)) (-1) h ps.length ps nx h t (List.replicate ps.length false)) (Ex.exit 0) (uT 0 ((ps.length:Int)) la (-1) k ps nx h t ys)) (.p (.l [[1,2,5,62,63,64]] [(32,32),(832,832)] (qx 0 la k (↑k) 0 ps nx h t ys) (Ex.exit 2) (qx 0 la k m i ps nx h t ys)) (.s ((ps.length:Int)≤1099511627776) (.s ((ps.length:Int)*1≤1099511627776) (.q ((ps.length:Int)) (.s (decide (0≤(ps.length:Int))=true) (.s (Runs Try.prog (CallsD Try.prog) (.code (.loop (af Try.prog 87 0))) (uT 0 ((ps.length:Int)) (-1) h ps.length ps nx h t (List.replicate ps.length false)).abs (Ex.exit 0) (uT 0 ((ps.length:Int)) la (-1) k ps nx h t ys).abs) (.k ((uT 0 ((ps.length:Int)) (-1) h ps.length ps nx h t (List.replicate ps.length false)=uT 0 ((ps.length:Int)) (-1) h ps.length ps nx h t (List.replicate ps.length false))) rfl (.s (Runs Try.prog (CallsD Try.prog) (.code (.loop (af Try.prog 87 1))) (qx 0 la k (↑k) 0 ps nx h t ys).abs (Ex.exit 2) (qx 0 la k m i ps nx h t ys).abs) (.k ((qx 0 la k (↑k) 0 ps nx h t ys=qx 0 la k (↑k) 0 ps nx h t ys)) rfl (.d (ai .neq t la) (fun e3=> .lf (i64 8)) (fun e3=> .lf (i64 0)))))))))))))))))
theorem ahw (r la:Int) (k:Nat) (m i:Int) (ps nx:List Int) (h t:Int) (ys:List Bool):Leaves (fun l=>cu Try.prog (X2) 100000 l 87 [D.agg [ri ps,ri nx,i64 h,i64 t]]) (AU r la k m i ps nx h t ys) [] []:=by refine⟨fun _=>?_,fun _=>⟨fun _=>?_,fun _=>⟨fun _=>?_,fun _=>⟨fun _=>?_,fun _=>?_⟩⟩⟩⟩<;>(show _=_;kernel_rfl)
theorem G8 (r la:Int) (k:Nat) (m i:Int) (ps nx:List Int) (h t:Int) (ys:List Bool) (res:D) (h0:At (fun r=>res=r) (AU r la k m i ps nx h t ys) [true] True) (h1:At (fun r=>res=r) (AU r la k m i ps nx h t ys) [false,true] True) (h2:At (fun r=>res=r) (AU r la k m i ps nx h t ys) [false,false,true] True) (h3:At (fun r=>res=r) (AU r la k m i ps nx h t ys) [false,false,false,true] True) (h4:At (fun r=>res=r) (AU r la k m i ps nx h t ys) [false,false,false,false] True):CallsD Try.prog 87 [D.agg [ri ps,ri nx,i64 h,i64 t]] res:=au (hX2) (ahw r la k m i ps nx h t ys) ⟨fun e0=>h0 e0,fun e0=>⟨fun e1=>h1 e0 e1,fun e1=>⟨fun e2=>h2 e0 e1 e2,fun e2=>⟨fun e3=>h3 e0 e1 e2 e3,fun e3=>h4 e0 e1 e2 e3⟩⟩⟩⟩
noncomputable def Il (r:Int) (n:Int) (la:Int) (i:Int) (k:Nat) (ps:List Int) (nx:List Int) (h:Int) (t:Int) (ys:List Bool):Tr D:= .d (ai .lss ((ps.length:Int)) 1) (fun e0=> .p (.c 6) (.lf (i64 8))) (fun e0=> .p (.c 0) (.d (ai .gtr ((ps.length:Int)) 16) (fun e1=> .p (.c 4) (.lf (i64 8))) (fun e1=> .p (.c 3) (.d (ai .neq ↑(nx.length) (ps.length:Int)) (fun e2=> .lf (i64 8)) (fun e2=> .p (.l [[1,2,3,4,5,6]] [(32,32),(832,832)] (uT 0 ((ps.length:Int)) (-1) h ps.length ps nx h t (List.replicate ps.length false)) Ex.ret (uT r n la i k ps nx h t ys)) (.s ((ps.length:Int)≤1099511627776) (.s ((ps.length:Int)*1≤1099511627776) (.q ((ps.length:Int)) (.s (decide (0≤(ps.length:Int))=true) (.s (Runs Try.prog (CallsD Try.prog) (.code (.loop (af Try.prog 87 0))) (uT 0 ((ps.length:Int)) (-1) h ps.length ps nx h t (List.replicate ps.length false)).abs (Ex.ret) (uT r n la i k ps nx h t ys).abs) (.k ((uT 0 ((ps.length:Int)) (-1) h ps.length ps nx h t (List.replicate ps.length false)=uT 0 ((ps.length:Int)) (-1) h ps.length ps nx h t (List.replicate ps.length false))) rfl (.lf (i64 r)))))))))))))
theorem ahl (r n la i:Int) (k:Nat) (ps nx:List Int) (h t:Int) (ys:List Bool):Leaves (fun l=>cu Try.prog (X2) 100000 l 87 [D.agg [ri ps,ri nx,i64 h,i64 t]]) (Il r n la i k ps nx h t ys) [] []:=by refine⟨fun _=>?_,fun _=>⟨fun _=>?_,fun _=>⟨fun _=>?_,fun _=>?_⟩⟩⟩<;>(show _=_;kernel_rfl)
theorem Vy (r n la i:Int) (k:Nat) (ps nx:List Int) (h t:Int) (ys:List Bool) (res:D) (h0:At (fun r=>res=r) (Il r n la i k ps nx h t ys) [true] True) (h1:At (fun r=>res=r) (Il r n la i k ps nx h t ys) [false,true] True) (h2:At (fun r=>res=r) (Il r n la i k ps nx h t ys) [false,false,true] True) (h3:At (fun r=>res=r) (Il r n la i k ps nx h t ys) [false,false,false] True):CallsD Try.prog 87 [D.agg [ri ps,ri nx,i64 h,i64 t]] res:=au (hX2) (ahl r n la i k ps nx h t ys) ⟨fun e0=>h0 e0,fun e0=>⟨fun e1=>h1 e0 e1,fun e1=>⟨fun e2=>h2 e0 e1 e2,fun e2=>h3 e0 e1 e2⟩⟩⟩
noncomputable def zI (r:Int) (la:Int) (k:Nat) (m:Int) (i:Int) (ps:List Int) (nx:List Int) (h:Int) (t:Int) (ys:List Bool):Tr D:= .d (ai .lss ((ps.length:Int)) 1) (fun e0=> .p (.c 6) (.lf (i64 8))) (fun e0=> .p (.c 0) (.d (ai .gtr ((ps.length:Int)) 16) (fun e1=> .p (.c 4) (.lf (i64 8))) (fun e1=> .p (.c 3) (.d (ai .neq ↑(nx.length) (ps.length:Int)) (fun e2=> .lf (i64 8)) (fun e2=> .p (.l [[1,2,3,4,5,6]] [(32,32),(832,832)] (uT 0 ((ps.length:Int)) (-1) h ps.length ps nx h t (List.replicate ps.length false)) (Ex.exit 0) (uT 0 ((ps.length:Int)) la (-1) k ps nx h t ys)) (.p (.l [[1,2,5,62,63,64]] [(32,32),(832,832)] (qx 0 la k (↑k) 0 ps nx h t ys) Ex.ret (qx r la k m i ps nx h t ys)) (.s ((ps.length:Int)≤1099511627776) (.s ((ps.length:Int)*1≤1099511627776) (.q ((ps.length:Int)) (.s (decide (0≤(ps.length:Int))=true) (.s (Runs Try.prog (CallsD Try.prog) (.code (.loop (af Try.prog 87 0))) (uT 0 ((ps.length:Int)) (-1) h ps.length ps nx h t (List.replicate ps.length false)).abs (Ex.exit 0) (uT 0 ((ps.length:Int)) la (-1) k ps nx h t ys).abs) (.k ((uT 0 ((ps.length:Int)) (-1) h ps.length ps nx h t (List.replicate ps.length false)=uT 0 ((ps.length:Int)) (-1) h ps.length ps nx h t (List.replicate ps.length false))) rfl (.s (Runs Try.prog (CallsD Try.prog) (.code (.loop (af Try.prog 87 1))) (qx 0 la k (↑k) 0 ps nx h t ys).abs (Ex.ret) (qx r la k m i ps nx h t ys).abs) (.k ((qx 0 la k (↑k) 0 ps nx h t ys=qx 0 la k (↑k) 0 ps nx h t ys)) rfl (.lf (i64 r))))))))))))))))
theorem ae6 (r la:Int) (k:Nat) (m i:Int) (ps nx:List Int) (h t:Int) (ys:List Bool):Leaves (fun l=>cu Try.prog (X2) 100000 l 87 [D.agg [ri ps,ri nx,i64 h,i64 t]]) (zI r la k m i ps nx h t ys) [] []:=by refine⟨fun _=>?_,fun _=>⟨fun _=>?_,fun _=>⟨fun _=>?_,fun _=>?_⟩⟩⟩<;>(show _=_;kernel_rfl)
theorem Rj (r la:Int) (k:Nat) (m i:Int) (ps nx:List Int) (h t:Int) (ys:List Bool) (res:D) (h0:At (fun r=>res=r) (zI r la k m i ps nx h t ys) [true] True) (h1:At (fun r=>res=r) (zI r la k m i ps nx h t ys) [false,true] True) (h2:At (fun r=>res=r) (zI r la k m i ps nx h t ys) [false,false,true] True) (h3:At (fun r=>res=r) (zI r la k m i ps nx h t ys) [false,false,false] True):CallsD Try.prog 87 [D.agg [ri ps,ri nx,i64 h,i64 t]] res:=au (hX2) (ae6 r la k m i ps nx h t ys) ⟨fun e0=>h0 e0,fun e0=>⟨fun e1=>h1 e0 e1,fun e1=>⟨fun e2=>h2 e0 e1 e2,fun e2=>h3 e0 e1 e2⟩⟩⟩
def lV (ps nx:List Int):Nat→Int→Int→List Bool→Option (Int×List Bool)
 |0,_,_,_=>none
 |d+1,la,i,ys=>if i=-1 then some (la,ys) else if i<0∨(ps.length:Int)≤i∨ys.getD i.toNat false=true∨ps.getD i.toNat 0≠la then none else lV ps nx d i (nx.getD i.toNat 0) (ys.set i.toNat true)
theorem IV {ps nx:List Int}:∀ {d:Nat} {la i:Int} {ys:List Bool} {r:Int×List Bool},lV ps nx d la i ys=some r→r.2.length=ys.length
 |0,_,_,_,_,h=>by cases h
 |d+1,la,i,ys,r,h=>by
  simp only[lV] at h
  split at h
  ·simp only[Option.some.injEq] at h;subst h;rfl
  ·split at h
   ·cases h
   ·have:=IV h;simpa using this
theorem aeS (ps nx:List Int) (h t:Int) (hn:nx.length=ps.length):∀ (d:Nat) (la i:Int) (ys:List Bool),ys.length=ps.length→unseen ys<d→
  match lV ps nx d la i ys with
  |some (la',ys')=>Runs Try.prog (CallsD Try.prog) (.rounds (af Try.prog 87 0)) (uT 0 ps.length la i ps.length ps nx h t ys).abs (.exit 0) (uT 0 ps.length la' (-1) ps.length ps nx h t ys').abs
  |none=>∃ (la' i':Int) (ys':List Bool),Runs Try.prog (CallsD Try.prog) (.rounds (af Try.prog 87 0)) (uT 0 ps.length la i ps.length ps nx h t ys).abs .ret (uT 8 ps.length la' i' ps.length ps nx h t ys').abs:=by
 intro d
 induction d with
 |zero=>intro la i ys _ h;omega
 |succ d ih=>
  intro la i ys hl hd
  simp only[lV]
  by_cases c1:i=-1
  ·subst c1
   simp only[if_true]
   refine Fz 0 ps.length la (-1) ps.length ps nx h t ys _ _ ?_ ?_ ?_ ?_ ?_ ?_<;>dsimp only[At,Tr.q,RG,yD]
   ·intro g;rw[aP] at g;exact absurd rfl g
   ·intro g;rw[aP] at g;exact absurd rfl g
   ·intro g;rw[aP] at g;exact absurd rfl g
   ·intro g;rw[aP] at g;exact absurd rfl g
   ·intro g;rw[aP] at g;exact absurd rfl g
   ·intro _;exact⟨trivial,rfl,rfl⟩
  ·rw[if_neg c1]
   by_cases c2:i<0∨(ps.length:Int)≤i∨ys.getD i.toNat false=true∨ps.getD i.toNat 0≠la
   ·rw[if_pos c2]
    refine⟨la,i,ys,Fz 0 ps.length la i ps.length ps nx h t ys _ _ ?_ ?_ ?_ ?_ ?_ ?_⟩
    ·intro _ _;exact⟨trivial,rfl,rfl⟩
    ·intro _ _ _;exact⟨trivial,rfl,rfl⟩
    ·intro _ g1 g2 _
     rw[aX] at g1;rw[iP] at g2
     exact⟨⟨by omega,by simpa using g1,by simpa using g2,trivial⟩,rfl,rfl⟩
    ·intro _ g1 g2 _ _
     rw[aX] at g1;rw[iP] at g2
     exact⟨⟨by simpa using g1,by simpa using g2,by omega,by simpa using g1,by simpa using g2,trivial⟩,rfl,rfl⟩
    ·intro _ g1 g2 g3 g4
     rw[aX] at g1;rw[iP] at g2;rw[aY] at g4
     rcases c2 with c | c | c | c
     ·omega
     ·omega
     ·rw[c] at g3;cases g3
     ·exact absurd g4 c
    ·intro g;rw[aY] at g;exact absurd g c1
   ·rw[if_neg c2]
    have hi0:0≤i:=by omega
    have hi1:i<(ps.length:Int):=by omega
    have hi2:ys.getD i.toNat false=false:=by
     cases e:ys.getD i.toNat false with
     |false=>rfl
     |true=>exact absurd (.inr (.inr (.inl e))) c2
    have hi3:ps.getD i.toNat 0=la:=Classical.byContradiction fun e=>c2 (.inr (.inr (.inr e)))
    have hu:=wI ys i.toNat (by omega) hi2
    have r:=ih i (nx.getD i.toNat 0) (ys.set i.toNat true) (by simpa using hl) (by omega)
    have d0:decide (0≤i)=true:=by simpa using hi0
    have d1:decide (i<(ps.length:Int))=true:=by simpa using hi1
    have d2:decide (i<(nx.length:Int))=true:=by rw[hn];exact d1
    have step:∀ (σ:St) (e:Ex),Runs Try.prog (CallsD Try.prog) (.rounds (af Try.prog 87 0)) (uT 0 ps.length i (nx.getD i.toNat 0) ps.length ps nx h t (ys.set i.toNat true)).abs e σ→Runs Try.prog (CallsD Try.prog) (.rounds (af Try.prog 87 0)) (uT 0 ps.length la i ps.length ps nx h t ys).abs e σ:=by
     intro σ e hr
     refine Fz 0 ps.length la i ps.length ps nx h t ys σ e ?_ ?_ ?_ ?_ ?_ ?_<;>dsimp only[At,Tr.q,RG,yD]
     ·intro _ g;rw[aQ] at g;omega
     ·intro _ _ g;rw[iQ] at g;omega
     ·intro _ _ _ g;rw[hi2] at g;cases g
     ·intro _ _ _ _ g;rw[aP] at g;exact absurd hi3 g
     ·intro _ _ _ _ _
      exact⟨⟨d0,d2,by omega,rfl,d0,d1,d0,d1,by omega,d0,d1,trivial⟩,hr⟩
     ·intro g;rw[aY] at g;exact absurd g c1
    cases hw:lV ps nx d i (nx.getD i.toNat 0) (ys.set i.toNat true) with
    |some q=>rw[hw] at r;exact step _ _ r
    |none=>
     rw[hw] at r
     obtain⟨la',i',ys',r⟩:=r
     exact⟨la',i',ys',step _ _ r⟩
def D9 (ps nx:List Int) (ys:List Bool) (i:Nat):Bool:=!ys.getD i false && (ps.getD i 0 != -1 || nx.getD i 0 != -1)
def Eg (ps nx:List Int) (h t:Int):Int:=
 if 1≤ps.length∧ps.length≤16∧nx.length=ps.length then match lV ps nx (ps.length+1) (-1) h (List.replicate ps.length false) with
  |some (la,ys)=>if gJ (D9 ps nx ys) ps.length 0<0∧t=la then 0 else 8
  |none=>8
 else 8
theorem ais (ps nx:List Int) (h t:Int):CallsD Try.prog 87 [.agg [ri ps,ri nx,i64 h,i64 t]] (i64 (Eg ps nx h t)):=by
 unfold Eg
 by_cases c:1≤ps.length∧ps.length≤16∧nx.length=ps.length
 ·rw[if_pos c]
  obtain⟨c1,c2,c3⟩:=c
  have u0:unseen (List.replicate ps.length false)≤ps.length:=by simpa using yT (List.replicate ps.length false)
  have r:=aeS ps nx h t c3 (ps.length+1) (-1) h (List.replicate ps.length false) (by simp) (by omega)
  have b0:decide (0≤(ps.length:Int))=true:=by simp
  cases hw:lV ps nx (ps.length+1) (-1) h (List.replicate ps.length false) with
  |none=>
   rw[hw] at r
   obtain⟨la',i',ys',r⟩:=r
   refine Vy 8 ps.length la' i' ps.length ps nx h t ys' _ ?_ ?_ ?_ ?_<;>dsimp only[At,Tr.q,Il]
   ·intro g;rw[aQ] at g;omega
   ·intro _ g;rw[dV] at g;omega
   ·intro _ _ g;rw[aP] at g;omega
   ·intro _ _ _
    exact⟨⟨ak r,b0,by omega,by omega,trivial⟩,rfl⟩
  |some q=>
   obtain⟨la,ys⟩:=q
   rw[hw] at r
   have hl:ys.length=ps.length:=by have:=IV hw;simpa using this
   have r':=ak r
   simp only
   refine fF (b:=af Try.prog 87 1) (fun i=>qx 0 la ps.length ps.length (i:Int) ps nx h t ys) ps.length (D9 ps nx ys) (fun v=>CallsD Try.prog 87 [.agg [ri ps,ri nx,i64 h,i64 t]] (i64 (if v<0∧t=la then 0 else 8))) ?_ ?_ ?_
   ·intro i hi hp σ e hr
    have n1:=ay hi
    have n2:=ay (n:=nx.length) (i:=i) (by omega)
    simp only[D9] at hp
    refine zy 0 la ps.length ps.length i ps nx h t ys σ e ?_ ?_ ?_ ?_ ?_<;>dsimp only[At,Tr.q,RG,sJ]
    ·intro _ g1 g2
     rw[Int.toNat_natCast] at g1 g2;rw[aP] at g2
     rw[g1,Bool.true_and,Bool.or_eq_false_iff] at hp
     have:=hp.1;simp at this;exact absurd this (by simpa using g2)
    ·intro _ g1 _ g2
     rw[Int.toNat_natCast] at g1 g2;rw[aP] at g2
     rw[g1,Bool.true_and,Bool.or_eq_false_iff] at hp
     have:=hp.2;simp at this;exact absurd this (by simpa using g2)
    ·intro _ _ _ _
     unfold BQ;rw[dF hi (by omega)]
     exact⟨⟨n1.1,n2.2,n1.1,n1.2,by rw[Int.toNat_natCast];omega,n1.1,n1.2,trivial⟩,hr⟩
    ·intro _ _
     unfold BQ;rw[dF hi (by omega)]
     exact⟨⟨by rw[Int.toNat_natCast];omega,n1.1,n1.2,trivial⟩,hr⟩
    ·intro g;rw[aX] at g;omega
   ·intro hr
    have lp:=ak (hr _ _ (zy 0 la ps.length ps.length ps.length ps nx h t ys _ _ (fun g=>by rw[aQ] at g;omega) (fun g=>by rw[aQ] at g;omega) (fun g=>by rw[aQ] at g;omega) (fun g=>by rw[aQ] at g;omega) (fun _=>⟨trivial,rfl,rfl⟩)))
    refine G8 0 la ps.length ps.length ps.length ps nx h t ys _ ?_ ?_ ?_ ?_ ?_<;>dsimp only[At,Tr.q,AU]
    ·intro g;rw[aQ] at g;omega
    ·intro _ g;rw[dV] at g;omega
    ·intro _ _ g;rw[aP] at g;omega
    ·intro _ _ _ g;rw[aP] at g
     exact⟨⟨lp,r',b0,by omega,by omega,trivial⟩,by rw[if_neg fun x=>g x.2]⟩
    ·intro _ _ _ g;rw[aY] at g
     exact⟨⟨lp,r',b0,by omega,by omega,trivial⟩,by rw[if_pos ⟨by omega,g⟩]⟩
   ·intro j hj hp hr
    have n1:=ay hj
    have n2:=ay (n:=nx.length) (i:=j) (by omega)
    simp only[D9,Bool.and_eq_true,Bool.or_eq_true] at hp
    refine Rj 8 la ps.length ps.length j ps nx h t ys _ ?_ ?_ ?_ ?_<;>dsimp only[At,Tr.q,zI]
    ·intro g;rw[aQ] at g;omega
    ·intro _ g;rw[dV] at g;omega
    ·intro _ _ g;rw[aP] at g;omega
    ·intro _ _ _
     refine⟨⟨ak (hr _ _ ?_),r',b0,by omega,by omega,trivial⟩,by rw[if_neg (fun x=>by omega)]⟩
     refine zy 0 la ps.length ps.length j ps nx h t ys _ _ ?_ ?_ ?_ ?_ ?_<;>dsimp only[At,Tr.q,RG,sJ]
     ·intro _ _ _;exact⟨⟨n1.1,n1.2,by rw[Int.toNat_natCast];omega,n1.1,n1.2,trivial⟩,rfl,rfl⟩
     ·intro _ _ _ _;exact⟨⟨n1.1,n2.2,n1.1,n1.2,by rw[Int.toNat_natCast];omega,n1.1,n1.2,trivial⟩,rfl,rfl⟩
     ·intro _ _ g2 g3
      rw[Int.toNat_natCast,aY] at g2 g3
      rcases hp.2 with q | q
      ·simp at q;exact absurd g2 (by simpa using q)
      ·simp at q;exact absurd g3 (by simpa using q)
     ·intro _ g1
      rw[Int.toNat_natCast] at g1
      rw[hp.1] at g1;cases g1
     ·intro g;rw[aX] at g;omega
 ·rw[if_neg c]
  refine G8 0 0 0 0 0 ps nx h t [] _ ?_ ?_ ?_ ?_ ?_<;>dsimp only[At,Tr.q,AU]
  ·intro _;exact⟨trivial,rfl⟩
  ·intro _ _;exact⟨trivial,rfl⟩
  ·intro _ _ _;exact⟨trivial,rfl⟩
  ·intro g1 g2 g3
   rw[aX] at g1;rw[gI] at g2;rw[aY] at g3;omega
  ·intro g1 g2 g3
   rw[aX] at g1;rw[gI] at g2;rw[aY] at g3;omega
end TableS
end

section
namespace TableS
open Go Go.Dam Go.Proofs
set_option maxRecDepth 1000000
def akC:List D→Option (D×List Prop)
 |[.agg [.rc [.ints .i64 nx], .rc [.bools us], .v (.int .i64 f)]]=>some (i64 (OZ nx us f),[us.length≤200])
 |_=>none
theorem adk (args res l) (h:akC args=some (res,l)) (hl:aI l):CallsD Try.prog 57 args res:=by
 unfold akC at h;split at h
 ·simp only[Option.some.injEq,Prod.mk.injEq] at h
  obtain⟨rfl,rfl⟩:=h;obtain⟨h0,_⟩:=hl
  exact ahx _ _ _ h0
 ·cases h
def lcC:List D→Option (D×List Prop)
 |[.agg [.rc [.ints .i64 ps], .rc [.ints .i64 nx], .v (.int .i64 h), .v (.int .i64 t)]]=>some (i64 (Eg ps nx h t),[])
 |_=>none
theorem aeX (args res l) (h:lcC args=some (res,l)) (hl:aI l):CallsD Try.prog 87 args res:=by
 unfold lcC at h;split at h
 ·simp only[Option.some.injEq,Prod.mk.injEq] at h
  obtain⟨rfl,rfl⟩:=h
  exact ais _ _ _ _
 ·cases h
def X5:aB:=aJ 57 (.call akC) (aJ 87 (.call lcC) X4)
theorem hX5:bG Try.prog X5:=ax adk (ax aeX Q7)
noncomputable def Ws (k:Nat) (i:Int) (ps nx:List Int) (h t:Int) (l:List Int):Cs:=⟨TT.of [(1,D.ptr 32 0),(2,D.v (Value.slice none 0 0)),(3,i64 0),(5,D.sl 9001 0 k ⟨1,0⟩),(6,i64 i)],26,[],[(32,BX.cells [ri ps,ri nx,i64 h,i64 t] false),(9001,BX.row [.ints .i64 l] false)],none,0⟩
end TableS
end

section
namespace TableS
open Go Go.Dam Go.Proofs
set_option maxRecDepth 1000000
noncomputable def MV (k:Nat) (i:Int) (ps:List Int) (nx:List Int) (h:Int) (t:Int) (l:List Int):Tr (Ex×Cs):= .d (ai .neq i (-1)) (fun e0=> .s (l.length=l.length) (.s (k=l.length) (.s ((k+1)*8≤17592186044416) (.s (decide (i<(nx.length:Int))=true) (.s (decide (0≤i)=true) (.lf (Ex.normal,(Ws (k+1) (nx.getD i.toNat 0) (ps) (nx) (h) (t) (l ++ [i]))))))))) (fun e0=> .lf (Ex.exit 0,(Ws (k) (i) (ps) (nx) (h) (t) (l))))
theorem aiZ (k:Nat) (i:Int) (ps nx:List Int) (h t:Int) (l:List Int):Leaves (bT Try.prog (X5) 100000 (af Try.prog 59 0) [[1,2,3,5,6]] [(32,32),(9001,9001)] (Ws k i ps nx h t l)) (MV k i ps nx h t l) [] []:=by refine⟨fun _=>?_,fun _=>?_⟩<;>(show _=_;kernel_rfl)
theorem Oz (k:Nat) (i:Int) (ps:List Int) (nx:List Int) (h:Int) (t:Int) (l:List Int) (σ:St) (e:Ex) (h0:At (RG Try.prog (af Try.prog 59 0) e σ) (MV k i ps nx h t l) [true] True) (h1:At (RG Try.prog (af Try.prog 59 0) e σ) (MV k i ps nx h t l) [false] True):Runs Try.prog (CallsD Try.prog) (.rounds (af Try.prog 59 0)) (Ws k i ps nx h t l).abs e σ:=aO (hX5) (aiZ k i ps nx h t l) ⟨fun e0=>h0 e0,fun e0=>h1 e0⟩
noncomputable def Ub (k:Nat) (i:Int) (ps:List Int) (nx:List Int) (h:Int) (t:Int) (l:List Int):Tr D:= .d (ai .neq (Eg ps nx h t) 0) (fun e0=> .lf (D.bF [D.v (Value.slice none 0 0),i64 (Eg ps nx h t)])) (fun e0=> .p (.k [Cast.nil 5 9001 1 [.ints .i64 []]]) (.p (.l [[1,2,3,5,6]] [(32,32),(9001,9001)] (Ws 0 h ps nx h t []) (Ex.exit 0) (Ws k i ps nx h t l)) (.s (Runs Try.prog (CallsD Try.prog) (.code (.loop (af Try.prog 59 0))) (Ws 0 h ps nx h t []).abs (Ex.exit 0) (Ws k i ps nx h t l).abs) (.k ((Ws 0 h ps nx h t []=Ws 0 h ps nx h t [])) rfl (.s (k=l.length) (.lf (D.bF [D.oc [.ints .i64 l],i64 0])))))))
theorem ahd (k:Nat) (i:Int) (ps nx:List Int) (h t:Int) (l:List Int):Leaves (fun l=>cu Try.prog (X5) 100000 l 59 [D.agg [ri ps,ri nx,i64 h,i64 t]]) (Ub k i ps nx h t l) [] []:=by refine⟨fun _=>?_,fun _=>?_⟩<;>(show _=_;kernel_rfl)
theorem IK (k:Nat) (i:Int) (ps nx:List Int) (h t:Int) (l:List Int) (res:D) (h0:At (fun r=>res=r) (Ub k i ps nx h t l) [true] True) (h1:At (fun r=>res=r) (Ub k i ps nx h t l) [false] True):CallsD Try.prog 59 [D.agg [ri ps,ri nx,i64 h,i64 t]] res:=au (hX5) (ahd k i ps nx h t l) ⟨fun e0=>h0 e0,fun e0=>h1 e0⟩
def qm (n:Nat) (ys:List Bool) (l:List Int):Prop:=ys.length=n∧∀ j,j<n→ys.getD j false=decide ((j:Int)∈l)
theorem vU (n:Nat):qm n (List.replicate n false) []:=⟨by simp,fun j hj=>by simp[List.getD_eq_getElem?_getD,hj]⟩
theorem vw {n:Nat} {ys:List Bool} {l:List Int} (h:qm n ys l) {i:Int} (h0:0≤i) (h1:i<(n:Int)):qm n (ys.set i.toNat true) (l ++ [i]):=by
 refine⟨by simpa using h.1,fun j hj=>?_⟩
 have hl:=h.1
 by_cases e:i.toNat=j
 ·subst e
  have:i=((i.toNat:Nat):Int):=by omega
  simp only[List.getD_eq_getElem?_getD]
  rw[List.getElem?_set_self (by omega)]
  simp[←this]
 ·have:=h.2 j hj
  simp only[List.getD_eq_getElem?_getD] at this ⊢
  rw[List.getElem?_set_ne e,this]
  have:(j:Int)≠i:=by omega
  simp[this]
theorem Ap {ps nx:List Int} (hn:nx.length=ps.length):∀ (d:Nat) (la i:Int) (ys:List Bool) (l:List Int) (q:Int×List Bool),qm nx.length ys l→lV ps nx d la i ys=some q→
  ∃ l',chain nx d i l=some l'∧qm nx.length q.2 l'
 |0,_,_,_,_,_,_,h=>by cases h
 |d+1,la,i,ys,l,q,hs,h=>by
  simp only[lV] at h
  simp only[chain]
  by_cases c1:i=-1
  ·rw[if_pos c1] at h ⊢
   simp only[Option.some.injEq] at h;subst h
   exact⟨l,rfl,hs⟩
  ·rw[if_neg c1] at h ⊢
   split at h
   ·cases h
   next c2=>
    have h0:0≤i:=by omega
    have h1:i<(nx.length:Int):=by omega
    have hm:i∉l:=fun hm=>by
     apply c2
     right;right;left
     rw[hs.2 i.toNat (by omega),show((i.toNat:Nat):Int)=i by omega]
     simpa using hm
    rw[if_neg (by rintro(c | c | c)<;>first | omega | exact hm c)]
    exact Ap hn d i (nx.getD i.toNat 0) _ _ q (vw hs h0 h1) h
theorem JZ {ps nx:List Int} {h t:Int} (e:Eg ps nx h t=0):1≤ps.length∧ps.length≤16∧nx.length=ps.length∧∃ la ys,lV ps nx (ps.length+1) (-1) h (List.replicate ps.length false)=some (la,ys)∧gJ (D9 ps nx ys) ps.length 0<0∧t=la:=by
 unfold Eg at e
 split at e
 next c=>
  refine⟨c.1,c.2.1,c.2.2,?_⟩
  split at e
  next la ys hw=>
   split at e
   next g=>exact⟨la,ys,hw,g.1,g.2⟩
   ·cases e
  ·cases e
 ·cases e
theorem y7 {ps nx:List Int} {h t:Int} (e:Eg ps nx h t=0):chain nx (nx.length+1) h []=some (dN nx h):=by
 obtain⟨c1,c2,c3,la,ys,hw,_⟩:=JZ e
 rw[←c3] at hw
 obtain⟨l',h1,_⟩:=Ap c3 _ _ _ _ [] _ (vU _) hw
 unfold dN;rw[h1];rfl
theorem YM (ps nx:List Int) (h t:Int) (hn:nx.length≤200):∀ (d:Nat) (i:Int) (l l':List Int),Lu nx.length l→chain nx d i l=some l'→
  Runs Try.prog (CallsD Try.prog) (.rounds (af Try.prog 59 0)) (Ws l.length i ps nx h t l).abs (.exit 0) (Ws l'.length (-1) ps nx h t l').abs
 |0,_,_,_,_,hc=>by cases hc
 |d+1,i,l,l',ho,hc=>by
  have hl:=wC _ _ ho.1 ho.2
  simp only[chain] at hc
  by_cases c1:i=-1
  ·rw[if_pos c1] at hc
   simp only[Option.some.injEq] at hc;subst hc;subst c1
   refine Oz l.length (-1) ps nx h t l _ _ ?_ ?_<;>dsimp only[At,Tr.q,RG,MV]
   ·intro g;rw[aP] at g;exact absurd rfl g
   ·intro _;exact⟨trivial,rfl,rfl⟩
  ·rw[if_neg c1] at hc
   split at hc
   ·cases hc
   next c2=>
    have h0:0≤i:=by omega
    have h1:i<(nx.length:Int):=by omega
    have ih:=YM ps nx h t hn d (nx.getD i.toNat 0) (l ++ [i]) l' (wP ho h0 h1 fun hm=>c2 (.inr (.inr hm))) hc
    refine Oz l.length i ps nx h t l _ _ ?_ ?_<;>dsimp only[At,Tr.q,RG,MV]
    ·intro _
     refine⟨⟨by simpa using h0,by simpa using h1,by omega,rfl,rfl,trivial⟩,?_⟩
     simpa using ih
    ·intro g;rw[aY] at g;exact absurd g c1
def qG (ps nx:List Int) (h t:Int):List Int:=if Eg ps nx h t=0 then dN nx h else[]
theorem aiA (ps nx:List Int) (h t:Int):CallsD Try.prog 59 [.agg [ri ps,ri nx,i64 h,i64 t]] (.bF [oi (qG ps nx h t),i64 (Eg ps nx h t)]):=by
 unfold qG
 by_cases e:Eg ps nx h t=0
 ·rw[if_pos e,e]
  obtain⟨c1,c2,c3,_⟩:=JZ e
  refine IK (dN nx h).length (-1) ps nx h t (dN nx h) _ (fun g=>by rw[aP] at g;exact absurd e g) fun _=>?_<;>dsimp only[At,Tr.q,Ub]
  exact⟨⟨rfl,ak (YM ps nx h t (by omega) _ h [] _ (uw _) (y7 e)),trivial⟩,rfl⟩
 ·rw[if_neg e]
  refine bH (e:= .bF [.v (.slice none 0 0),i64 (Eg ps nx h t)]) (bM.bF (.cons (.nil rfl) (.refl _))) ?_
  exact IK 0 0 ps nx h t [] _ (fun _=>⟨trivial,rfl⟩) fun g=>by rw[aY] at g;exact absurd g e
def llC:List D→Option (D×List Prop)
 |[.agg [.rc [.ints .i64 ps], .rc [.ints .i64 nx], .v (.int .i64 h), .v (.int .i64 t)]]=>some ((.bF [oi (qG ps nx h t),i64 (Eg ps nx h t)]),[])
 |_=>none
theorem aez (args res l) (h:llC args=some (res,l)) (hl:aI l):CallsD Try.prog 59 args res:=by
 unfold llC at h;split at h
 ·simp only[Option.some.injEq,Prod.mk.injEq] at h
  obtain⟨rfl,rfl⟩:=h
  exact aiA _ _ _ _
 ·cases h
def X6:aB:=aJ 59 (.call llC) X5
theorem hX6:bG Try.prog X6:=ax aez hX5
end TableS
end

section
namespace TableS
open Go Go.Dam Go.Proofs
set_option maxRecDepth 1000000
noncomputable def yG (p1:List Int) (n1:List Int) (p2:List Int) (n2:List Int) (c1:Int) (t1:Int) (c2:Int) (t2:Int):Tr D:= .s (p1.length≤200) (.d (ND p1 p2) (fun e0=> .p (.c 3) (.s (n1.length≤200) (.d (ND n1 n2) (fun e1=> .p (.c 3) (.d (ai .eql c1 c2) (fun e2=> .p (.c 3) (.lf (bo (ai .eql t1 t2)))) (fun e2=> .p (.c 3) (.lf (bo false))))) (fun e1=> .p (.c 8) (.lf (bo false)))))) (fun e0=> .p (.c 13) (.lf (bo false))))
theorem aeK (p1 n1 p2 n2:List Int) (c1 t1 c2 t2:Int):Leaves (fun l=>cu Try.prog (X6) 100000 l 56 [D.agg [ri p1,ri n1,i64 c1,i64 t1],D.agg [ri p2,ri n2,i64 c2,i64 t2]]) (yG p1 n1 p2 n2 c1 t1 c2 t2) [] []:=by refine⟨fun _=>⟨fun _=>⟨fun _=>?_,fun _=>?_⟩,fun _=>?_⟩,fun _=>?_⟩<;>(show _=_;kernel_rfl)
theorem Rq (p1 n1 p2 n2:List Int) (c1 t1 c2 t2:Int) (res:D) (h0:At (fun r=>res=r) (yG p1 n1 p2 n2 c1 t1 c2 t2) [true,true,true] True) (h1:At (fun r=>res=r) (yG p1 n1 p2 n2 c1 t1 c2 t2) [true,true,false] True) (h2:At (fun r=>res=r) (yG p1 n1 p2 n2 c1 t1 c2 t2) [true,false] True) (h3:At (fun r=>res=r) (yG p1 n1 p2 n2 c1 t1 c2 t2) [false] True):CallsD Try.prog 56 [D.agg [ri p1,ri n1,i64 c1,i64 t1],D.agg [ri p2,ri n2,i64 c2,i64 t2]] res:=au (hX6) (aeK p1 n1 p2 n2 c1 t1 c2 t2) ⟨fun e0=>⟨fun e1=>⟨fun e2=>h0 e0 e1 e2,fun e2=>h1 e0 e1 e2⟩,fun e1=>h2 e0 e1⟩,fun e0=>h3 e0⟩
def Bg (p1 n1:List Int) (h1 t1:Int) (p2 n2:List Int) (h2 t2:Int):Bool:=ND p1 p2 && (ND n1 n2 && (decide (h1=h2) && decide (t1=t2)))
theorem aav (p1 n1:List Int) (h1 t1:Int) (p2 n2:List Int) (h2 t2:Int) (hp:p1.length≤200∧n1.length≤200):CallsD Try.prog 56 [.agg [ri p1,ri n1,i64 h1,i64 t1], .agg [ri p2,ri n2,i64 h2,i64 t2]] (bo (Bg p1 n1 h1 t1 p2 n2 h2 t2)):=by
 refine Rq p1 n1 p2 n2 h1 t1 h2 t2 _ ?_ ?_ ?_ ?_<;>dsimp only[At,Tr.q,yG]
 ·intro a b c
  rw[iM] at c
  refine⟨⟨hp.2,hp.1,trivial⟩,?_⟩
  simp only[Bg,a,b,c,Bool.true_and,decide_true]
  congr 2
 ·intro a b c
  rw[je] at c
  exact⟨⟨hp.2,hp.1,trivial⟩,by simp[Bg,a,b,c]⟩
 ·intro a b
  exact⟨⟨hp.2,hp.1,trivial⟩,by simp[Bg,a,b]⟩
 ·intro a
  exact⟨⟨hp.1,trivial⟩,by simp[Bg,a]⟩
end TableS
end

section
namespace TableS
open Go Go.Dam Go.Proofs
set_option maxRecDepth 1000000
def Yl:List D→Option (D×List Prop)
 |[.agg [.rc [.ints .i64 p1], .rc [.ints .i64 n1], .v (.int .i64 h1), .v (.int .i64 t1)], .agg [.rc [.ints .i64 p2], .rc [.ints .i64 n2], .v (.int .i64 h2), .v (.int .i64 t2)]]=>some (bo (Bg p1 n1 h1 t1 p2 n2 h2 t2),[p1.length≤200∧n1.length≤200])
 |_=>none
theorem Yf (args res l) (h:Yl args=some (res,l)) (hl:aI l):CallsD Try.prog 56 args res:=by
 unfold Yl at h;split at h
 ·simp only[Option.some.injEq,Prod.mk.injEq] at h
  obtain⟨rfl,rfl⟩:=h;obtain⟨h0,_⟩:=hl
  exact aav _ _ _ _ _ _ _ _ h0
 ·cases h
def X7:aB:=aJ 56 (.call Yl) X6
theorem Ry:bG Try.prog X7:=ax Yf hX6
noncomputable def qf (o k:Int) (nx:List Int) (us:List Bool) (f:Int) (m:Nat) (l:List Int):Cs:=⟨TT.of [(1,D.ptr 32 0),(2,i64 o),(3,D.sl 864 0 m ⟨1,0⟩),(5,i64 k)],63,[],[(32,BX.cells [ri nx,rb us,i64 f] false),(864,BX.row [.ints .i64 l] false)],none,0⟩
noncomputable def jm (kx px:List Int) (ux:List Bool) (o i:Int):Cs:=⟨TT.of [(0,cc kx px ux),(2,i64 o),(3,i64 i)],72,[],[],none,0⟩
noncomputable def Jb (kx px:List Int) (ux:List Bool) (o n m j:Int):Cs:=⟨TT.of [(0,cc kx px ux),(2,i64 o),(3,i64 n),(13,cc kx px ux),(14,i64 m),(15,i64 j)],70,[],[],none,0⟩
noncomputable def iR (kx px:List Int) (ux:List Bool) (o i k:Int):Cs:=⟨TT.of [(0,cc kx px ux),(2,i64 o),(3,i64 i),(4,i64 k)],72,[],[],none,0⟩
noncomputable def kC (kx px:List Int) (ux:List Bool) (o i:Int):Cs:=⟨TT.of [(0,cc kx px ux),(2,i64 o),(26,i64 i)],70,[],[],none,0⟩
end TableS
end

section
namespace TableS
open Go Go.Dam Go.Proofs
set_option maxRecDepth 1000000
noncomputable def Aa (ps:List Int) (nx:List Int) (h:Int) (t:Int):Tr D:= .d (ai .lss (ps.length:Int) 1) (fun e0=> .p (.c 10) (.lf (i64 8))) (fun e0=> .p (.c 2) (.d (ai .gtr (ps.length:Int) 16) (fun e1=> .p (.c 6) (.lf (i64 8))) (fun e1=> .p (.c 5) (.d (ai .neq (nx.length:Int) (ps.length:Int)) (fun e2=> .lf (i64 8)) (fun e2=> .s (nx.length≤200) (.d (!GY nx h) (fun e3=> .p (.c 7) (.lf (i64 8))) (fun e3=> .p (.c 6) (.s (mdS (ps.length:Int) (dN nx h)) (.q (ah [.ints .i64 (dN nx h)]) (.s (ps.length≤200∧nx.length≤200) (.q (ah [.ints .i64 (Bj ((ps.length:Int)).toNat (dN nx h) (dN nx h).length)]) (.q (ah [.ints .i64 (CV ((ps.length:Int)).toNat (dN nx h) (dN nx h).length)]) (.d (!Bg ps nx h t (CV ((ps.length:Int)).toNat (dN nx h) (dN nx h).length) (Bj ((ps.length:Int)).toNat (dN nx h) (dN nx h).length) (Wn (dN nx h) (dN nx h).length) (Ll (dN nx h) (dN nx h).length)) (fun e4=> .lf (i64 8)) (fun e4=> .lf (i64 0)))))))))))))))
theorem aio (ps nx:List Int) (h t:Int):Leaves (fun l=>cu Try.prog (X7) 100000 l 74 [D.agg [ri ps,ri nx,i64 h,i64 t]]) (Aa ps nx h t) [] []:=by refine⟨fun _=>?_,fun _=>⟨fun _=>?_,fun _=>⟨fun _=>?_,fun _=>⟨fun _=>?_,fun _=>⟨fun _=>?_,fun _=>?_⟩⟩⟩⟩⟩<;>(show _=_;kernel_rfl)
theorem UN (ps nx:List Int) (h t:Int) (res:D) (h0:At (fun r=>res=r) (Aa ps nx h t) [true] True) (h1:At (fun r=>res=r) (Aa ps nx h t) [false,true] True) (h2:At (fun r=>res=r) (Aa ps nx h t) [false,false,true] True) (h3:At (fun r=>res=r) (Aa ps nx h t) [false,false,false,true] True) (h4:At (fun r=>res=r) (Aa ps nx h t) [false,false,false,false,true] True) (h5:At (fun r=>res=r) (Aa ps nx h t) [false,false,false,false,false] True):CallsD Try.prog 74 [D.agg [ri ps,ri nx,i64 h,i64 t]] res:=au (Ry) (aio ps nx h t) ⟨fun e0=>h0 e0,fun e0=>⟨fun e1=>h1 e0 e1,fun e1=>⟨fun e2=>h2 e0 e1 e2,fun e2=>⟨fun e3=>h3 e0 e1 e2 e3,fun e3=>⟨fun e4=>h4 e0 e1 e2 e3 e4,fun e4=>h5 e0 e1 e2 e3 e4⟩⟩⟩⟩⟩
noncomputable def BJ (o k:Int) (nx:List Int) (us:List Bool) (f:Int) (m:Nat) (l:List Int):=qf (o) (aj .add .i64 k 1) (nx) (us) (f) (m) (l)
noncomputable def pU (o:Int) (k:Int) (nx:List Int) (us:List Bool) (f:Int) (m:Nat) (l:List Int):Tr (Ex×Cs):= .d (ai .lss k (us.length:Int)) (fun e0=> .s (decide (k<(us.length:Int))=true) (.s (decide (0≤k)=true) (.s (l.length≤200) (.s (m=l.length) (.d (us.getD k.toNat false ==inB l k) (fun e1=> .p (.c 6) (.lf (Ex.ret,(qf (8) (k) (nx) (us) (f) (m) (l))))) (fun e1=> .p (.c 4) (.s (decide (k<(us.length:Int))=true) (.s (decide (0≤k)=true) (.d (us.getD k.toNat false) (fun e2=> .p (.c 5) (.s (decide (k<(nx.length:Int))=true) (.s (decide (0≤k)=true) (.d (ai .neq (nx.getD k.toNat 0) (-1)) (fun e3=> .lf (Ex.ret,(qf (8) (k) (nx) (us) (f) (m) (l)))) (fun e3=> .lf (Ex.normal,(BJ o k nx us f m l))))))) (fun e2=> .p (.c 6) (.lf (Ex.normal,(BJ o k nx us f m l))))))))))))) (fun e0=> .lf (Ex.exit 0,(qf (o) (k) (nx) (us) (f) (m) (l))))
theorem ady (o k:Int) (nx:List Int) (us:List Bool) (f:Int) (m:Nat) (l:List Int):Leaves (bT Try.prog (X7) 100000 (af Try.prog 72 0) [[1,2,3,5]] [(32,32),(864,864)] (qf o k nx us f m l)) (pU o k nx us f m l) [] []:=by refine⟨fun _=>⟨fun _=>?_,fun _=>⟨fun _=>⟨fun _=>?_,fun _=>?_⟩,fun _=>?_⟩⟩,fun _=>?_⟩<;>(show _=_;kernel_rfl)
theorem zH (o:Int) (k:Int) (nx:List Int) (us:List Bool) (f:Int) (m:Nat) (l:List Int) (σ:St) (e:Ex) (h0:At (RG Try.prog (af Try.prog 72 0) e σ) (pU o k nx us f m l) [true,true] True) (h1:At (RG Try.prog (af Try.prog 72 0) e σ) (pU o k nx us f m l) [true,false,true,true] True) (h2:At (RG Try.prog (af Try.prog 72 0) e σ) (pU o k nx us f m l) [true,false,true,false] True) (h3:At (RG Try.prog (af Try.prog 72 0) e σ) (pU o k nx us f m l) [true,false,false] True) (h4:At (RG Try.prog (af Try.prog 72 0) e σ) (pU o k nx us f m l) [false] True):Runs Try.prog (CallsD Try.prog) (.rounds (af Try.prog 72 0)) (qf o k nx us f m l).abs e σ:=aO (Ry) (ady o k nx us f m l) ⟨fun e0=>⟨fun e1=>h0 e0 e1,fun e1=>⟨fun e2=>⟨fun e3=>h1 e0 e1 e2 e3,fun e3=>h2 e0 e1 e2 e3⟩,fun e2=>h3 e0 e1 e2⟩⟩,fun e0=>h4 e0⟩
noncomputable def sH (nx:List Int) (us:List Bool) (f:Int) (k:Int):Tr D:= .d (ai .lss (nx.length:Int) 1) (fun e0=> .p (.c 10) (.lf (i64 8))) (fun e0=> .p (.c 2) (.d (ai .gtr (nx.length:Int) 16) (fun e1=> .p (.c 6) (.lf (i64 8))) (fun e1=> .p (.c 5) (.d (ai .neq (us.length:Int) (nx.length:Int)) (fun e2=> .lf (i64 8)) (fun e2=> .s (nx.length≤200) (.d (!GY nx f) (fun e3=> .lf (i64 8)) (fun e3=> .p (.l [[1,2,3,5]] [(32,32),(864,864)] (qf 0 0 nx us f ((dN nx f).length) (dN nx f)) (Ex.exit 0) (qf 0 k nx us f ((dN nx f).length) (dN nx f))) (.s (Runs Try.prog (CallsD Try.prog) (.code (.loop (af Try.prog 72 0))) (qf 0 0 nx us f ((dN nx f).length) (dN nx f)).abs (Ex.exit 0) (qf 0 k nx us f ((dN nx f).length) (dN nx f)).abs) (.k ((qf 0 0 nx us f ((dN nx f).length) (dN nx f)=qf 0 0 nx us f ((dN nx f).length) (dN nx f))) rfl (.lf (i64 0)))))))))))
theorem ae1 (nx:List Int) (us:List Bool) (f k:Int):Leaves (fun l=>cu Try.prog (X7) 100000 l 72 [D.agg [ri nx,rb us,i64 f]]) (sH nx us f k) [] []:=by refine⟨fun _=>?_,fun _=>⟨fun _=>?_,fun _=>⟨fun _=>?_,fun _=>⟨fun _=>?_,fun _=>?_⟩⟩⟩⟩<;>(show _=_;kernel_rfl)
theorem Dy (nx:List Int) (us:List Bool) (f k:Int) (res:D) (h0:At (fun r=>res=r) (sH nx us f k) [true] True) (h1:At (fun r=>res=r) (sH nx us f k) [false,true] True) (h2:At (fun r=>res=r) (sH nx us f k) [false,false,true] True) (h3:At (fun r=>res=r) (sH nx us f k) [false,false,false,true] True) (h4:At (fun r=>res=r) (sH nx us f k) [false,false,false,false] True):CallsD Try.prog 72 [D.agg [ri nx,rb us,i64 f]] res:=au (Ry) (ae1 nx us f k) ⟨fun e0=>h0 e0,fun e0=>⟨fun e1=>h1 e0 e1,fun e1=>⟨fun e2=>h2 e0 e1 e2,fun e2=>⟨fun e3=>h3 e0 e1 e2 e3,fun e3=>h4 e0 e1 e2 e3⟩⟩⟩⟩
noncomputable def vg (nx:List Int) (us:List Bool) (f:Int) (o:Int) (k:Int):Tr D:= .d (ai .lss (nx.length:Int) 1) (fun e0=> .p (.c 10) (.lf (i64 8))) (fun e0=> .p (.c 2) (.d (ai .gtr (nx.length:Int) 16) (fun e1=> .p (.c 6) (.lf (i64 8))) (fun e1=> .p (.c 5) (.d (ai .neq (us.length:Int) (nx.length:Int)) (fun e2=> .lf (i64 8)) (fun e2=> .s (nx.length≤200) (.d (!GY nx f) (fun e3=> .lf (i64 8)) (fun e3=> .p (.l [[1,2,3,5]] [(32,32),(864,864)] (qf 0 0 nx us f ((dN nx f).length) (dN nx f)) Ex.ret (qf o k nx us f ((dN nx f).length) (dN nx f))) (.s (Runs Try.prog (CallsD Try.prog) (.code (.loop (af Try.prog 72 0))) (qf 0 0 nx us f ((dN nx f).length) (dN nx f)).abs (Ex.ret) (qf o k nx us f ((dN nx f).length) (dN nx f)).abs) (.k ((qf 0 0 nx us f ((dN nx f).length) (dN nx f)=qf 0 0 nx us f ((dN nx f).length) (dN nx f))) rfl (.lf (i64 o)))))))))))
theorem afc (nx:List Int) (us:List Bool) (f o k:Int):Leaves (fun l=>cu Try.prog (X7) 100000 l 72 [D.agg [ri nx,rb us,i64 f]]) (vg nx us f o k) [] []:=by refine⟨fun _=>?_,fun _=>⟨fun _=>?_,fun _=>⟨fun _=>?_,fun _=>⟨fun _=>?_,fun _=>?_⟩⟩⟩⟩<;>(show _=_;kernel_rfl)
theorem Qk (nx:List Int) (us:List Bool) (f o k:Int) (res:D) (h0:At (fun r=>res=r) (vg nx us f o k) [true] True) (h1:At (fun r=>res=r) (vg nx us f o k) [false,true] True) (h2:At (fun r=>res=r) (vg nx us f o k) [false,false,true] True) (h3:At (fun r=>res=r) (vg nx us f o k) [false,false,false,true] True) (h4:At (fun r=>res=r) (vg nx us f o k) [false,false,false,false] True):CallsD Try.prog 72 [D.agg [ri nx,rb us,i64 f]] res:=au (Ry) (afc nx us f o k) ⟨fun e0=>h0 e0,fun e0=>⟨fun e1=>h1 e0 e1,fun e1=>⟨fun e2=>h2 e0 e1 e2,fun e2=>⟨fun e3=>h3 e0 e1 e2 e3,fun e3=>h4 e0 e1 e2 e3⟩⟩⟩⟩
theorem zf {nx:List Int} {f:Int} (h:GY nx f=true):chain nx (nx.length+1) f []=some (dN nx f):=by
 unfold GY at h;unfold dN
 obtain⟨l,e⟩:=Option.isSome_iff_exists.1 h
 rw[e];rfl
theorem ug {nx:List Int} {f:Int} (h:GY nx f=true):Lu nx.length (dN nx f):=yj (uw _) (zf h)
theorem x9 {n:Nat} {l:List Int} (h:Lu n l):l.length≤n:=wC _ _ h.1 h.2
def Xr (ps nx:List Int) (h t:Int):Bool:=Bg ps nx h t (CV ps.length (dN nx h) (dN nx h).length) (Bj ps.length (dN nx h) (dN nx h).length) (Wn (dN nx h) (dN nx h).length) (Ll (dN nx h) (dN nx h).length)
def vJ (ps nx:List Int) (h t:Int):Int:=if 1≤ps.length∧ps.length≤16∧nx.length=ps.length∧GY nx h=true∧Xr ps nx h t=true then 0 else 8
theorem afW (ps nx:List Int) (h t:Int) (hn:nx.length≤200):CallsD Try.prog 74 [.agg [ri ps,ri nx,i64 h,i64 t]] (i64 (vJ ps nx h t)):=by
 unfold vJ
 refine UN ps nx h t _ ?_ ?_ ?_ ?_ ?_ ?_<;>dsimp only[At,Tr.q,Aa]
 ·intro g;rw[aQ] at g;exact⟨trivial,by rw[if_neg (by omega)]⟩
 ·intro _ g;rw[dV] at g;exact⟨trivial,by rw[if_neg (by omega)]⟩
 ·intro _ _ g;rw[aP] at g;exact⟨trivial,by rw[if_neg (by omega)]⟩
 ·intro _ _ _ g;exact⟨⟨hn,trivial⟩,by rw[if_neg (by intro c;rw[c.2.2.2.1] at g;cases g)]⟩
 all_goals
  intro g1 g2 g3 g4 g5
  rw[aX] at g1;rw[gI] at g2;rw[aY] at g3
  have g4':GY nx h=true:=by simpa using g4
  have ho:=ug g4'
  have hl:=x9 ho
  have hm:mdS (ps.length:Int) (dN nx h):=⟨by omega,by omega,by omega,fun x hx=>by have:=ho.2 x hx;omega⟩
 ·refine⟨⟨⟨by omega,hn⟩,hm,hn,trivial⟩,?_⟩
  rw[if_neg]
  intro c
  have:=c.2.2.2.2
  unfold Xr at this
  rw[Int.toNat_natCast] at g5
  rw[this] at g5;cases g5
 ·refine⟨⟨⟨by omega,hn⟩,hm,hn,trivial⟩,?_⟩
  rw[if_pos]
  rw[Int.toNat_natCast] at g5
  exact⟨by omega,by omega,by omega,g4',by unfold Xr;simpa using g5⟩
def pO (nx:List Int) (us:List Bool) (f:Int) (i:Nat):Bool:=(us.getD i false ==inB (dN nx f) i) || (us.getD i false && nx.getD i 0 != -1)
def wJ (nx:List Int) (us:List Bool) (f:Int):Int:=if 1≤nx.length∧nx.length≤16∧us.length=nx.length∧GY nx f=true then(if gJ (pO nx us f) nx.length 0<0 then 0 else 8) else 8
theorem aef (nx:List Int) (us:List Bool) (f:Int) (hn:nx.length≤200):CallsD Try.prog 72 [.agg [ri nx,rb us,i64 f]] (i64 (wJ nx us f)):=by
 unfold wJ
 by_cases c:1≤nx.length∧nx.length≤16∧us.length=nx.length∧GY nx f=true
 ·rw[if_pos c]
  obtain⟨c1,c2,c3,c4⟩:=c
  have hl:=x9 (ug c4)
  have hl2:(dN nx f).length≤200:=by omega
  refine fF (b:=af Try.prog 72 0) (fun i=>qf 0 (i:Int) nx us f (dN nx f).length (dN nx f)) nx.length (pO nx us f) (fun v=>CallsD Try.prog 72 [.agg [ri nx,rb us,i64 f]] (i64 (if v<0 then 0 else 8))) ?_ ?_ ?_
  ·intro i hi hp σ e hr
   have n1:=ay hi
   have n2:=ay (n:=us.length) (i:=i) (by omega)
   simp only[pO,Bool.or_eq_false_iff] at hp
   refine zH 0 i nx us f _ (dN nx f) σ e ?_ ?_ ?_ ?_ ?_<;>dsimp only[At,Tr.q,RG,pU]
   ·intro _ g;rw[Int.toNat_natCast,hp.1] at g;cases g
   ·intro _ _ g1 g2
    rw[Int.toNat_natCast] at g1 g2
    rw[aP] at g2
    have:=hp.2
    rw[g1] at this;simp at this;exact absurd this (by simpa using g2)
   ·intro _ _ _ _
    unfold BJ;rw[dF hi hn]
    exact⟨⟨n1.1,n1.2,n2.1,n2.2,rfl,hl2,n2.1,n2.2,trivial⟩,hr⟩
   ·intro _ _ _
    unfold BJ;rw[dF hi hn]
    exact⟨⟨n2.1,n2.2,rfl,hl2,n2.1,n2.2,trivial⟩,hr⟩
   ·intro g;rw[aX] at g;omega
  ·intro hr
   refine Dy nx us f nx.length _ ?_ ?_ ?_ ?_ ?_<;>dsimp only[At,Tr.q,sH]
   ·intro g;rw[aQ] at g;omega
   ·intro _ g;rw[dV] at g;omega
   ·intro _ _ g;rw[aP] at g;omega
   ·intro _ _ _ g;rw[c4] at g;cases g
   ·intro _ _ _ _
    refine⟨⟨ak (hr _ _ ?_),hn,trivial⟩,rfl⟩
    refine zH 0 nx.length nx us f _ (dN nx f) _ _ ?_ ?_ ?_ ?_ ?_<;>dsimp only[At,Tr.q,RG,pU]
    ·intro g;rw[aQ] at g;omega
    ·intro g;rw[aQ] at g;omega
    ·intro g;rw[aQ] at g;omega
    ·intro g;rw[aQ] at g;omega
    ·intro _;exact⟨trivial,rfl,rfl⟩
  ·intro j hj hp hr
   have n1:=ay hj
   have n2:=ay (n:=us.length) (i:=j) (by omega)
   refine Qk nx us f 8 j _ ?_ ?_ ?_ ?_ ?_<;>dsimp only[At,Tr.q,vg]
   ·intro g;rw[aQ] at g;omega
   ·intro _ g;rw[dV] at g;omega
   ·intro _ _ g;rw[aP] at g;omega
   ·intro _ _ _ g;rw[c4] at g;cases g
   ·intro _ _ _ _
    refine⟨⟨ak (hr _ _ ?_),hn,trivial⟩,by rw[if_neg (by omega)]⟩
    refine zH 0 j nx us f _ (dN nx f) _ _ ?_ ?_ ?_ ?_ ?_<;>dsimp only[At,Tr.q,RG,pU]
    ·intro _ _;exact⟨⟨rfl,hl2,n2.1,n2.2,trivial⟩,rfl,rfl⟩
    ·intro _ _ _ _;exact⟨⟨n1.1,n1.2,n2.1,n2.2,rfl,hl2,n2.1,n2.2,trivial⟩,rfl,rfl⟩
    ·intro _ g1 g2 g3
     rw[Int.toNat_natCast] at g1 g2 g3
     rw[aY] at g3
     simp only[pO,g1,g3,Bool.false_or,Bool.and_eq_true] at hp
     simp at hp
    ·intro _ g1 g2
     rw[Int.toNat_natCast] at g1 g2
     simp only[pO,g1,Bool.false_or,Bool.and_eq_true] at hp
     rw[g2] at hp;cases hp.1
    ·intro g;rw[aX] at g;omega
 ·rw[if_neg c]
  refine Dy nx us f 0 _ ?_ ?_ ?_ ?_ ?_<;>dsimp only[At,Tr.q,sH]
  ·intro _;exact⟨trivial,rfl⟩
  ·intro _ _;exact⟨trivial,rfl⟩
  ·intro _ _ _;exact⟨trivial,rfl⟩
  ·intro _ _ _ _;exact⟨⟨hn,trivial⟩,rfl⟩
  ·intro g1 g2 g3 g4
   rw[aX] at g1;rw[gI] at g2;rw[aY] at g3
   exact absurd ⟨by omega,by omega,by omega,by simpa using g4⟩ c
def adH:List D→Option (D×List Prop)
 |[.agg [.rc [.ints .i64 ps], .rc [.ints .i64 nx], .v (.int .i64 h), .v (.int .i64 t)]]=>some (i64 (vJ ps nx h t),[nx.length≤200])
 |_=>none
theorem aaB (args res l) (h:adH args=some (res,l)) (hl:aI l):CallsD Try.prog 74 args res:=by
 unfold adH at h;split at h
 ·simp only[Option.some.injEq,Prod.mk.injEq] at h
  obtain⟨rfl,rfl⟩:=h;obtain⟨h0,_⟩:=hl
  exact afW _ _ _ _ h0
 ·cases h
def agd:List D→Option (D×List Prop)
 |[.agg [.rc [.ints .i64 nx], .rc [.bools us], .v (.int .i64 f)]]=>some (i64 (wJ nx us f),[nx.length≤200])
 |_=>none
theorem aaI (args res l) (h:agd args=some (res,l)) (hl:aI l):CallsD Try.prog 72 args res:=by
 unfold agd at h;split at h
 ·simp only[Option.some.injEq,Prod.mk.injEq] at h
  obtain⟨rfl,rfl⟩:=h;obtain⟨h0,_⟩:=hl
  exact aef _ _ _ h0
 ·cases h
end TableS
end
