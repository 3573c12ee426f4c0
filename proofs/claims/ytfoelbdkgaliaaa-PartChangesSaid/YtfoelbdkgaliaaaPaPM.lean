/- What the functions compute, and the law. No condition. -/
import Derived.Test.YtfoelbdkgaliaaaPaVT
set_option linter.unusedSectionVars false
set_option linter.unusedVariables false
set_option linter.unusedSimpArgs false
section
namespace TableS
open Go Go.Dam Go.Proofs
set_option maxRecDepth 1000000
def YX (f:Tb→Int→Int→Int→Int→D×List Prop):List D→Option (D×List Prop)
 |[d, .agg [.v (.int .i64 b), .v (.int .i64 r), .v (.int .i64 p)], .v (.int .u32 m)]=>match QG d with
  |some T=>some (f T b r p m)
  |none=>none
 |_=>none
theorem ZA {f:Tb→Int→Int→Int→Int→D×List Prop} {g:FuncId} (hf:∀ T b r p m,aI (f T b r p m).2→CallsD Try.prog g [T.d, .agg [i64 b,i64 r,i64 p],u32 m] (f T b r p m).1) (args res l) (h:YX f args=some (res,l)) (hl:aI l):CallsD Try.prog g args res:=by
 unfold YX at h
 split at h
 next d b r p m=>
  split at h
  next T ht=>
   simp only[Option.some.injEq] at h
   have e:=Dc ht
   subst e
   have:=hf T b r p m (by rw[h];exact hl)
   rw[h] at this;exact this
  ·cases h
 ·cases h
def agO (T:Tb) (b r p m:Int):D×List Prop:=(bo (Wq T b r p m),[ZU T])
def agJ:List D→Option (D×List Prop):=YX agO
theorem aa6 (args res l) (h:agJ args=some (res,l)) (hl:aI l):CallsD Try.prog 45 args res:=ZA (f:=agO) (fun T b r p m h=>adl T b r p m h.1) args res l h hl
def XP2:aB:=aJ 45 (.call agJ) OW
theorem adi:bG Try.prog XP2:=ax aa6 wL
noncomputable def BH (Q:Pt) (o i:Int):Cs:=⟨TT.of [(1,D.ptr 32 0),(2,i64 o),(3,i64 i)],79,[],[(32,Q.b)],none,0⟩
end TableS
end

section
namespace TableS
open Go Go.Dam Go.Proofs
set_option maxRecDepth 1000000
noncomputable def Dz (Q:Pt) (i:Int):=ai .geq (Q.rv.getD (aj .sub .i64 i 1).toNat 0) (Q.rv.getD i.toNat 0)
noncomputable def Iq (Q:Pt) (o:Int) (i:Int):Tr (Ex×Cs):= .d (ai .lss i ↑(Q.rv.length)) (fun e0=> .s (decide (aj .sub .i64 i 1< ↑(Q.rv.length))=true) (.s (decide (0≤aj .sub .i64 i 1)=true) (.s (decide (i< ↑(Q.rv.length))=true) (.s (decide (0≤i)=true) (.d (Dz Q i) (fun e1=> .lf (Ex.ret,(BH Q (8) (i)))) (fun e1=> .lf (Ex.normal,(BH Q (o) (aj .add .i64 i 1))))))))) (fun e0=> .lf (Ex.exit 0,(BH Q (o) (i))))
theorem aic (Q:Pt) (o i:Int):Leaves (bT Try.prog (XP2) 100000 (af Try.prog 22 0) [[1,2,3]] [(32,32)] (BH Q o i)) (Iq Q o i) [] []:=by refine⟨fun _=>⟨fun _=>?_,fun _=>?_⟩,fun _=>?_⟩<;>(show _=_;kernel_rfl)
theorem Ea (Q:Pt) (o:Int) (i:Int) (σ:St) (e:Ex) (h0:At (RG Try.prog (af Try.prog 22 0) e σ) (Iq Q o i) [true,true] True) (h1:At (RG Try.prog (af Try.prog 22 0) e σ) (Iq Q o i) [true,false] True) (h2:At (RG Try.prog (af Try.prog 22 0) e σ) (Iq Q o i) [false] True):Runs Try.prog (CallsD Try.prog) (.rounds (af Try.prog 22 0)) (BH Q o i).abs e σ:=aO (adi) (aic Q o i) ⟨fun e0=>⟨fun e1=>h0 e0 e1,fun e1=>h1 e0 e1⟩,fun e0=>h2 e0⟩
noncomputable def Qc (Q:Pt):=!(Q.ob ==Q.b0 && (Q.orr ==Q.r0 && (Q.op ==Q.p0 && true)))
noncomputable def ji (Q:Pt) (i:Int):Tr D:= .d (ai .geq Q.te 16) (fun e0=> .p (.c 14) (.lf (i64 8))) (fun e0=> .p (.c 2) (.d (!mQ Q.b0 Q.r0 Q.p0 Q.b1 Q.r1 Q.p1 Q.b2 Q.r2 Q.p2) (fun e1=> .p (.c 10) (.lf (i64 8))) (fun e1=> .p (.c 2) (.d (ai .neq (wM Q.ob Q.orr Q.op Q.ov Q.oq) 0) (fun e2=> .p (.c 6) (.lf (i64 8))) (fun e2=> .p (.c 5) (.d (Qc Q) (fun e3=> .lf (i64 8)) (fun e3=> .s (uK Q.U) (.d (ai .neq (BG Q.U) 0) (fun e4=> .p (.c 17) (.lf (i64 8))) (fun e4=> .p (.c 2) (.s (uK Q.E) (.d (ai .neq (BG Q.E) 0) (fun e5=> .p (.c 13) (.lf (i64 8))) (fun e5=> .p (.c 5) (.s (ZU Q.U) (.d (!Wq Q.U Q.b1 Q.r1 Q.p1 4294967295) (fun e6=> .p (.c 6) (.lf (i64 8))) (fun e6=> .p (.c 5) (.s (ZU Q.E) (.d (!Wq Q.E Q.b2 Q.r2 Q.p2 65535) (fun e7=> .lf (i64 8)) (fun e7=> .d (ai .gtr (↑(Q.rv.length)) 8) (fun e8=> .lf (i64 8)) (fun e8=> .p (.l [[1,2,3]] [(32,32)] (BH Q 0 1) (Ex.exit 0) (BH Q 0 i)) (.s (Runs Try.prog (CallsD Try.prog) (.code (.loop (af Try.prog 22 0))) (BH Q 0 1).abs (Ex.exit 0) (BH Q 0 i).abs) (.k ((BH Q 0 1=BH Q 0 1)) rfl (.lf (i64 0)))))))))))))))))))))))
theorem ahc (Q:Pt) (i:Int):Leaves (fun l=>cu Try.prog (XP2) 100000 l 22 [Q.d]) (ji Q i) [] []:=by refine⟨fun _=>?_,fun _=>⟨fun _=>?_,fun _=>⟨fun _=>?_,fun _=>⟨fun _=>?_,fun _=>⟨fun _=>?_,fun _=>⟨fun _=>?_,fun _=>⟨fun _=>?_,fun _=>⟨fun _=>?_,fun _=>⟨fun _=>?_,fun _=>?_⟩⟩⟩⟩⟩⟩⟩⟩⟩<;>(show _=_;kernel_rfl)
theorem iH (Q:Pt) (i:Int) (res:D) (h0:At (fun r=>res=r) (ji Q i) [true] True) (h1:At (fun r=>res=r) (ji Q i) [false,true] True) (h2:At (fun r=>res=r) (ji Q i) [false,false,true] True) (h3:At (fun r=>res=r) (ji Q i) [false,false,false,true] True) (h4:At (fun r=>res=r) (ji Q i) [false,false,false,false,true] True) (h5:At (fun r=>res=r) (ji Q i) [false,false,false,false,false,true] True) (h6:At (fun r=>res=r) (ji Q i) [false,false,false,false,false,false,true] True) (h7:At (fun r=>res=r) (ji Q i) [false,false,false,false,false,false,false,true] True) (h8:At (fun r=>res=r) (ji Q i) [false,false,false,false,false,false,false,false,true] True) (h9:At (fun r=>res=r) (ji Q i) [false,false,false,false,false,false,false,false,false] True):CallsD Try.prog 22 [Q.d] res:=au (adi) (ahc Q i) ⟨fun e0=>h0 e0,fun e0=>⟨fun e1=>h1 e0 e1,fun e1=>⟨fun e2=>h2 e0 e1 e2,fun e2=>⟨fun e3=>h3 e0 e1 e2 e3,fun e3=>⟨fun e4=>h4 e0 e1 e2 e3 e4,fun e4=>⟨fun e5=>h5 e0 e1 e2 e3 e4 e5,fun e5=>⟨fun e6=>h6 e0 e1 e2 e3 e4 e5 e6,fun e6=>⟨fun e7=>h7 e0 e1 e2 e3 e4 e5 e6 e7,fun e7=>⟨fun e8=>h8 e0 e1 e2 e3 e4 e5 e6 e7 e8,fun e8=>h9 e0 e1 e2 e3 e4 e5 e6 e7 e8⟩⟩⟩⟩⟩⟩⟩⟩⟩
noncomputable def Yx (Q:Pt):=!(Q.ob ==Q.b0 && (Q.orr ==Q.r0 && (Q.op ==Q.p0 && true)))
noncomputable def qA (Q:Pt) (i:Int):Tr D:= .d (ai .geq Q.te 16) (fun e0=> .p (.c 14) (.lf (i64 8))) (fun e0=> .p (.c 2) (.d (!mQ Q.b0 Q.r0 Q.p0 Q.b1 Q.r1 Q.p1 Q.b2 Q.r2 Q.p2) (fun e1=> .p (.c 10) (.lf (i64 8))) (fun e1=> .p (.c 2) (.d (ai .neq (wM Q.ob Q.orr Q.op Q.ov Q.oq) 0) (fun e2=> .p (.c 6) (.lf (i64 8))) (fun e2=> .p (.c 5) (.d (Yx Q) (fun e3=> .lf (i64 8)) (fun e3=> .s (uK Q.U) (.d (ai .neq (BG Q.U) 0) (fun e4=> .p (.c 17) (.lf (i64 8))) (fun e4=> .p (.c 2) (.s (uK Q.E) (.d (ai .neq (BG Q.E) 0) (fun e5=> .p (.c 13) (.lf (i64 8))) (fun e5=> .p (.c 5) (.s (ZU Q.U) (.d (!Wq Q.U Q.b1 Q.r1 Q.p1 4294967295) (fun e6=> .p (.c 6) (.lf (i64 8))) (fun e6=> .p (.c 5) (.s (ZU Q.E) (.d (!Wq Q.E Q.b2 Q.r2 Q.p2 65535) (fun e7=> .lf (i64 8)) (fun e7=> .d (ai .gtr (↑(Q.rv.length)) 8) (fun e8=> .lf (i64 8)) (fun e8=> .p (.l [[1,2,3]] [(32,32)] (BH Q 0 1) Ex.ret (BH Q 8 i)) (.s (Runs Try.prog (CallsD Try.prog) (.code (.loop (af Try.prog 22 0))) (BH Q 0 1).abs (Ex.ret) (BH Q 8 i).abs) (.k ((BH Q 0 1=BH Q 0 1)) rfl (.lf (i64 8)))))))))))))))))))))))
theorem aix (Q:Pt) (i:Int):Leaves (fun l=>cu Try.prog (XP2) 100000 l 22 [Q.d]) (qA Q i) [] []:=by refine⟨fun _=>?_,fun _=>⟨fun _=>?_,fun _=>⟨fun _=>?_,fun _=>⟨fun _=>?_,fun _=>⟨fun _=>?_,fun _=>⟨fun _=>?_,fun _=>⟨fun _=>?_,fun _=>⟨fun _=>?_,fun _=>⟨fun _=>?_,fun _=>?_⟩⟩⟩⟩⟩⟩⟩⟩⟩<;>(show _=_;kernel_rfl)
theorem Uc (Q:Pt) (i:Int) (res:D) (h0:At (fun r=>res=r) (qA Q i) [true] True) (h1:At (fun r=>res=r) (qA Q i) [false,true] True) (h2:At (fun r=>res=r) (qA Q i) [false,false,true] True) (h3:At (fun r=>res=r) (qA Q i) [false,false,false,true] True) (h4:At (fun r=>res=r) (qA Q i) [false,false,false,false,true] True) (h5:At (fun r=>res=r) (qA Q i) [false,false,false,false,false,true] True) (h6:At (fun r=>res=r) (qA Q i) [false,false,false,false,false,false,true] True) (h7:At (fun r=>res=r) (qA Q i) [false,false,false,false,false,false,false,true] True) (h8:At (fun r=>res=r) (qA Q i) [false,false,false,false,false,false,false,false,true] True) (h9:At (fun r=>res=r) (qA Q i) [false,false,false,false,false,false,false,false,false] True):CallsD Try.prog 22 [Q.d] res:=au (adi) (aix Q i) ⟨fun e0=>h0 e0,fun e0=>⟨fun e1=>h1 e0 e1,fun e1=>⟨fun e2=>h2 e0 e1 e2,fun e2=>⟨fun e3=>h3 e0 e1 e2 e3,fun e3=>⟨fun e4=>h4 e0 e1 e2 e3 e4,fun e4=>⟨fun e5=>h5 e0 e1 e2 e3 e4 e5,fun e5=>⟨fun e6=>h6 e0 e1 e2 e3 e4 e5 e6,fun e6=>⟨fun e7=>h7 e0 e1 e2 e3 e4 e5 e6 e7,fun e7=>⟨fun e8=>h8 e0 e1 e2 e3 e4 e5 e6 e7 e8,fun e8=>h9 e0 e1 e2 e3 e4 e5 e6 e7 e8⟩⟩⟩⟩⟩⟩⟩⟩⟩
end TableS
end

section
namespace TableS
open Go Go.Dam Go.Proofs
set_option maxRecDepth 1000000
theorem adp (Q:Pt) (hl:Q.rv.length≤200):
  ((∀ i,i<Q.rv.length→rP Q i=false)∧∃ j:Int,Runs Try.prog (CallsD Try.prog) (.code (.loop (af Try.prog 22 0))) (BH Q 0 1).abs (.exit 0) (BH Q 0 j).abs)∨
  ((∃ i,i<Q.rv.length∧rP Q i=true)∧∃ j:Int,Runs Try.prog (CallsD Try.prog) (.code (.loop (af Try.prog 22 0))) (BH Q 0 1).abs .ret (BH Q 8 j).abs):=by
 have pre:∀ i:Nat,0<i→i≤200→aj .sub .i64 (i:Int) 1=((i - 1:Nat):Int):=fun i h0 hi=>by rw[eY,aT (by omega) (by omega)];omega
 have step:∀ i,i<max 1 Q.rv.length→(1≤i∧rP Q i=false)→∀ (σ:St) (e:Ex),Runs Try.prog (CallsD Try.prog) (.rounds (af Try.prog 22 0)) (BH Q 0 ((i+1:Nat):Int)).abs e σ→Runs Try.prog (CallsD Try.prog) (.rounds (af Try.prog 22 0)) (BH Q 0 (i:Int)).abs e σ:=fun i hi' hp σ e hr=>by
  obtain⟨i1,hp⟩:=hp
  have hi:i<Q.rv.length:=by omega
  have hm:i - 1<Q.rv.length:=by omega
  rw[←dF hi hl] at hr
  have c0:Dz Q i=false:=by
   unfold Dz;rw[pre i i1 (by omega),Int.toNat_natCast,Int.toNat_natCast]
   unfold rP at hp;rw[decide_eq_true (by omega),Bool.true_and] at hp;exact hp
  refine Ea Q 0 i σ e ?_ ?_ ?_<;>dsimp only[At,Tr.q,RG,Iq]
  ·intro _ g;rw[c0] at g;cases g
  ·intro _ _;rw[pre i i1 (by omega)];exact⟨⟨(ay hi).1,(ay hi).2,(ay hm).1,(ay hm).2,trivial⟩,hr⟩
  ·intro g;rw[aX] at g;omega
 by_cases hx:∃ j,1≤j∧j<max 1 Q.rv.length∧¬ (1≤j∧rP Q j=false)
 ·obtain⟨j,j0,j1',j2,_,j4⟩:=jZ (fun i=>BH Q 0 (i:Int)) (max 1 Q.rv.length) (fun i=>1≤i∧rP Q i=false) step (max 1 Q.rv.length - 1) 1 (by omega) hx
  have j1:j<Q.rv.length:=by omega
  have hm:j - 1<Q.rv.length:=by omega
  have hp:rP Q j=true:=by
   cases e:rP Q j with
   |true=>rfl
   |false=>exact absurd ⟨j0,e⟩ j2
  have c0:Dz Q j=true:=by
   unfold Dz;rw[pre j j0 (by omega),Int.toNat_natCast,Int.toNat_natCast]
   unfold rP at hp;rw[Bool.and_eq_true] at hp;exact hp.2
  refine .inr ⟨⟨j,j1,hp⟩,j,ak (j4 _ _ (Ea Q 0 j _ _ ?_ ?_ ?_))⟩
  ·intro _ _;rw[pre j j0 (by omega)];exact⟨⟨(ay j1).1,(ay j1).2,(ay hm).1,(ay hm).2,trivial⟩,rfl,rfl⟩
  ·intro _ g;rw[c0] at g;cases g
  ·intro g;rw[aX] at g;omega
 ·have hf:∀ i,1≤i→i<max 1 Q.rv.length→(1≤i∧rP Q i=false):=fun i h0 hi=>by
   refine⟨h0,?_⟩
   cases e:rP Q i with
   |false=>rfl
   |true=>exact absurd ⟨i,h0,hi,by simp[e]⟩ hx
  refine .inl ⟨fun i hi=>?_,((max 1 Q.rv.length:Nat):Int),ak (dS (fun i=>BH Q 0 (i:Int)) (max 1 Q.rv.length) (fun i=>1≤i∧rP Q i=false) step ?_ (max 1 Q.rv.length - 1) 1 (by omega) (fun j h0 hj=>hf j h0 hj))⟩
  ·by_cases e:1≤i
   ·exact(hf i e (by omega)).2
   ·unfold rP;rw[decide_eq_false (by omega),Bool.false_and]
  ·refine Ea Q 0 (max 1 Q.rv.length:Nat) _ _ ?_ ?_ ?_<;>dsimp only[At,Tr.q,RG,Iq]
   ·intro g;rw[aQ] at g;omega
   ·intro g;rw[aQ] at g;omega
   ·intro _;exact⟨trivial,rfl,rfl⟩
theorem afZ {Q:Pt} (ho:uK Q.U) (hs:ZU Q.U) (e:Gj Q Q.b1 Q.r1 Q.p1 Q.b2 Q.r2 Q.p2=true):Wq Q.U Q.b1 Q.r1 Q.p1 4294967295=true↔∀ i,i<Q.U.us.length→uP Q i=false:=by
 obtain⟨⟨a1,a2,a3⟩,_,_⟩:=Lc e
 unfold Wq
 rw[decide_eq_true_eq,dM]
 have q:∀ i,i<Q.U.us.length→odd Q.U Q.b1 Q.r1 Q.p1 4294967295 i=uP Q i:=fun i hi=>by
  have hk:ai .gtr (Q.U.ks.getD i 0) 4294967295=false:=by
   rw[gI];have:=ho.2.1 i (by have:=hs.2.2.2;omega);unfold vk at this;omega
  unfold odd uP Gj
  rw[hk,a1,a2,a3];simp
 constructor
 ·intro h i hi;rw[←q i hi];exact h i (by omega) (by omega)
 ·intro h j _ hj;rw[q j (by omega)];exact h j (by omega)
theorem aew {Q:Pt} (e:Gj Q Q.b1 Q.r1 Q.p1 Q.b2 Q.r2 Q.p2=true):Wq Q.E Q.b2 Q.r2 Q.p2 65535=true↔∀ i,i<Q.E.us.length→eP Q i=false:=by
 obtain⟨⟨a1,a2,a3⟩,_,_⟩:=Lc e
 unfold Wq
 rw[decide_eq_true_eq,dM]
 have q:∀ i,odd Q.E Q.b2 Q.r2 Q.p2 65535 i=eP Q i:=fun i=>by
  unfold odd eP Gj
  rw[a1,a2,a3];simp
 constructor
 ·intro h i hi;rw[←q i];exact h i (by omega) (by omega)
 ·intro h j _ hj;rw[q j];exact h j (by omega)
theorem aek (Q:Pt) (h:uJ Q):CallsD Try.prog 22 [Q.d] (i64 (lG Q)):=by
 obtain⟨hv,hU,hE,hl⟩:=h
 by_cases d0:Q.te<16
 case neg=>
  rw[gy (fun n=>d0 n.1)]
  have f0:ai .geq Q.te 16=true:=by rw[iQ];omega
  refine iH Q 0 _ ?_ ?_ ?_ ?_ ?_ ?_ ?_ ?_ ?_ ?_<;>dsimp only[At,Tr.q,ji]
  all_goals simp only[f0,reduceCtorEq,false_implies,true_implies,implies_true,forall_const,true_and,and_true]
 have f0:ai .geq Q.te 16=false:=by rw[iP];omega
 cases f1:mQ Q.b0 Q.r0 Q.p0 Q.b1 Q.r1 Q.p1 Q.b2 Q.r2 Q.p2
 case false=>
  rw[gy (fun n=>by rw[n.2.1] at f1;cases f1)]
  refine iH Q 0 _ ?_ ?_ ?_ ?_ ?_ ?_ ?_ ?_ ?_ ?_<;>dsimp only[At,Tr.q,ji]
  all_goals simp only[f0,f1,Bool.not_false,reduceCtorEq,false_implies,true_implies,implies_true,forall_const,true_and,and_true]
 by_cases d2:wM Q.ob Q.orr Q.op Q.ov Q.oq=0
 case neg=>
  rw[gy (fun n=>d2 n.2.2.1)]
  have f2:ai .neq (wM Q.ob Q.orr Q.op Q.ov Q.oq) 0=true:=by rw[aP];exact d2
  refine iH Q 0 _ ?_ ?_ ?_ ?_ ?_ ?_ ?_ ?_ ?_ ?_<;>dsimp only[At,Tr.q,ji]
  all_goals simp only[f0,f1,f2,Bool.not_true,reduceCtorEq,false_implies,true_implies,implies_true,forall_const,true_and,and_true]
 have f2:ai .neq (wM Q.ob Q.orr Q.op Q.ov Q.oq) 0=false:=by rw[aY];exact d2
 have c0:Qc Q=!Gj Q Q.b1 Q.r1 Q.p1 Q.b2 Q.r2 Q.p2:=by unfold Qc Gj;simp
 have c0':Yx Q=!Gj Q Q.b1 Q.r1 Q.p1 Q.b2 Q.r2 Q.p2:=c0
 cases f5:Gj Q Q.b1 Q.r1 Q.p1 Q.b2 Q.r2 Q.p2
 case false=>
  rw[gy (fun n=>by rw[n.2.2.2.2.2.1] at f5;cases f5)]
  refine iH Q 0 _ ?_ ?_ ?_ ?_ ?_ ?_ ?_ ?_ ?_ ?_<;>dsimp only[At,Tr.q,ji]
  all_goals simp only[f0,f1,f2,c0,f5,Bool.not_true,Bool.not_false,reduceCtorEq,false_implies,true_implies,implies_true,forall_const,true_and,and_true]
 by_cases d3:nO Q.U=0
 case neg=>
  rw[gy (fun n=>d3 n.2.2.2.1)]
  have f3:ai .neq (BG Q.U) 0=true:=by rw[aP,←rC hU];exact d3
  refine iH Q 0 _ ?_ ?_ ?_ ?_ ?_ ?_ ?_ ?_ ?_ ?_<;>dsimp only[At,Tr.q,ji]
  all_goals simp only[f0,f1,f2,c0,f5,f3,Bool.not_true,reduceCtorEq,false_implies,true_implies,implies_true,forall_const,true_and,and_true,hU]
 have f3:ai .neq (BG Q.U) 0=false:=by rw[aY,←rC hU];exact d3
 by_cases d4:nO Q.E=0
 case neg=>
  rw[gy (fun n=>d4 n.2.2.2.2.1)]
  have f4:ai .neq (BG Q.E) 0=true:=by rw[aP,←rC hE];exact d4
  refine iH Q 0 _ ?_ ?_ ?_ ?_ ?_ ?_ ?_ ?_ ?_ ?_<;>dsimp only[At,Tr.q,ji]
  all_goals simp only[f0,f1,f2,c0,f5,f3,f4,Bool.not_true,reduceCtorEq,false_implies,true_implies,implies_true,forall_const,true_and,and_true,hU,hE]
 have f4:ai .neq (BG Q.E) 0=false:=by rw[aY,←rC hE];exact d4
 have sU:=KA hU d3
 have sE:=KA hE d4
 have iU:=afZ hU sU f5
 have iE:=aew f5
 cases f6:Wq Q.U Q.b1 Q.r1 Q.p1 4294967295
 case false=>
  rw[gy (fun n=>by rw[iU.2 n.2.2.2.2.2.2.1] at f6;cases f6)]
  refine iH Q 0 _ ?_ ?_ ?_ ?_ ?_ ?_ ?_ ?_ ?_ ?_<;>dsimp only[At,Tr.q,ji]
  all_goals simp only[f0,f1,f2,c0,f5,f3,f4,f6,Bool.not_true,Bool.not_false,reduceCtorEq,false_implies,true_implies,implies_true,forall_const,true_and,and_true,hU,hE,sU]
 cases f7:Wq Q.E Q.b2 Q.r2 Q.p2 65535
 case false=>
  rw[gy (fun n=>by rw[iE.2 n.2.2.2.2.2.2.2.1] at f7;cases f7)]
  refine iH Q 0 _ ?_ ?_ ?_ ?_ ?_ ?_ ?_ ?_ ?_ ?_<;>dsimp only[At,Tr.q,ji]
  all_goals simp only[f0,f1,f2,c0,f5,f3,f4,f6,f7,Bool.not_true,Bool.not_false,reduceCtorEq,false_implies,true_implies,implies_true,forall_const,true_and,and_true,hU,hE,sU,sE]
 by_cases d8:Q.rv.length≤8
 case neg=>
  rw[gy (fun n=>d8 n.2.2.2.2.2.2.2.2.1)]
  have f8:ai .gtr (Q.rv.length:Int) 8=true:=by rw[dV];omega
  refine iH Q 0 _ ?_ ?_ ?_ ?_ ?_ ?_ ?_ ?_ ?_ ?_<;>dsimp only[At,Tr.q,ji]
  all_goals simp only[f0,f1,f2,c0,f5,f3,f4,f6,f7,f8,Bool.not_true,reduceCtorEq,false_implies,true_implies,implies_true,forall_const,true_and,and_true,hU,hE,sU,sE]
 have f8:ai .gtr (Q.rv.length:Int) 8=false:=by rw[gI];omega
 rcases adp Q hl with⟨rf,j,rr⟩ | ⟨⟨i,i1,i2⟩,j,rr⟩
 case inr=>
  rw[gy (fun n=>by rw[n.2.2.2.2.2.2.2.2.2 i i1] at i2;cases i2)]
  refine Uc Q j _ ?_ ?_ ?_ ?_ ?_ ?_ ?_ ?_ ?_ ?_<;>dsimp only[At,Tr.q,qA]
  all_goals simp only[f0,f1,f2,c0',f5,f3,f4,f6,f7,f8,Bool.not_true,reduceCtorEq,false_implies,true_implies,implies_true,forall_const,true_and,and_true,hU,hE,sU,sE]
  exact rr
 rw[Yv ⟨d0,f1,d2,d3,d4,f5,iU.1 f6,iE.1 f7,d8,rf⟩]
 refine iH Q j _ ?_ ?_ ?_ ?_ ?_ ?_ ?_ ?_ ?_ ?_<;>dsimp only[At,Tr.q,ji]
 all_goals simp only[f0,f1,f2,c0,f5,f3,f4,f6,f7,f8,Bool.not_true,reduceCtorEq,false_implies,true_implies,implies_true,forall_const,true_and,and_true,hU,hE,sU,sE]
 exact rr
end TableS
end
