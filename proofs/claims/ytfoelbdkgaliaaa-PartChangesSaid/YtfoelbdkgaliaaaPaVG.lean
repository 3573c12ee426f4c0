/- What the functions compute, and the law. No condition. -/
import Derived.Test.YtfoelbdkgaliaaaPaPX
import Derived.Shelf.Spec.SlicesInsertGrow
import Derived.Test.YtfoelbdkgaliaaaProg
import Derived.Test.YtfoelbdkgaliaaaDamYA
import Derived.Test.YtfoelbdkgaliaaaPaTZ
set_option linter.unusedSectionVars false
set_option linter.unusedVariables false
set_option linter.unusedSimpArgs false
section
namespace TableS
open Go Go.Dam Go.Proofs
set_option maxRecDepth 1000000
noncomputable def ac1 (Q:Pt) (u:Int):=Wp Q 0 (aj .sub .i64 (↑(Q.rv.length+1)) 1) (Q.rv.length+1) (Q.rv ++ [u])
noncomputable def Kz (Q:Pt) (u:Int) (i:Int) (k:Nat) (xs:List Int):Tr D:= .s (uJ Q) (.d (ai .neq (lG Q) 0) (fun e0=> .s (uJ Q) (.lf (D.bF [D.agg [u32 0,i64 0,i64 0,i64 0,i64 0,i64 0,i64 0,i64 0,i64 0,i64 0,i64 0,i64 0,i64 0,i64 0,i64 0,u64 0,i64 0,D.v (Value.slice none 0 0),D.v (Value.slice none 0 0),D.v (Value.slice none 0 0),D.v (Value.slice none 0 0),i64 0,D.v (Value.slice none 0 0),D.v (Value.slice none 0 0),D.v (Value.slice none 0 0),i64 0,i64 0,i64 0,D.v (Value.slice none 0 0),D.v (Value.slice none 0 0),D.v (Value.slice none 0 0),D.v (Value.slice none 0 0),i64 0,D.v (Value.slice none 0 0),D.v (Value.slice none 0 0),D.v (Value.slice none 0 0),i64 0,i64 0,D.v (Value.slice none 0 0),u64 0,u64 0,u64 0],i64 (lG Q)]))) (fun e0=> .s (Gh Q) (.s (Q.rv.length≤200) (.d (isB Q.rv u) (fun e1=> .q (ah [.ints .u32 Q.rv]) (.q (ah [.ints .i64 Q.E.no]) (.q (ah [.ints .i64 Q.E.ps]) (.q (ah [.ints .u32 Q.E.kx, .ints .i64 Q.E.px, .bools Q.E.ux]) (.q (ah [.bools Q.E.us]) (.q (ah [.ints .i64 Q.E.nx]) (.q (ah [.ints .i64 Q.E.x1, .ints .i64 Q.E.x2, .ints .i64 Q.E.x3, .ints .i64 Q.E.x4, .ints .i64 Q.E.x5, .ints .u64 Q.E.x6]) (.q (ah [.ints .u32 Q.E.ks]) (.q (ah [.ints .i64 Q.U.no]) (.q (ah [.ints .i64 Q.U.ps]) (.q (ah [.ints .u32 Q.U.kx, .ints .i64 Q.U.px, .bools Q.U.ux]) (.q (ah [.bools Q.U.us]) (.q (ah [.ints .i64 Q.U.nx]) (.q (ah [.ints .i64 Q.U.x1, .ints .i64 Q.U.x2, .ints .i64 Q.U.x3, .ints .i64 Q.U.x4, .ints .i64 Q.U.x5, .ints .u64 Q.U.x6]) (.q (ah [.ints .u32 Q.U.ks]) (.lf (D.bF [D.agg [u32 Q.te,i64 Q.b0,i64 Q.r0,i64 Q.p0,i64 Q.b1,i64 Q.r1,i64 Q.p1,i64 Q.b2,i64 Q.r2,i64 Q.p2,i64 Q.ob,i64 Q.orr,i64 Q.op,i64 Q.ov,i64 Q.oq,u64 Q.oa,i64 Q.U.n,D.oc [.ints .u32 Q.U.ks],D.oc [.ints .i64 Q.U.x1, .ints .i64 Q.U.x2, .ints .i64 Q.U.x3, .ints .i64 Q.U.x4, .ints .i64 Q.U.x5, .ints .u64 Q.U.x6],D.oc [.ints .i64 Q.U.nx],D.oc [.bools Q.U.us],i64 Q.U.fr,D.oc [.ints .u32 Q.U.kx, .ints .i64 Q.U.px, .bools Q.U.ux],D.oc [.ints .i64 Q.U.ps],D.oc [.ints .i64 Q.U.no],i64 Q.U.h,i64 Q.U.t,i64 Q.E.n,D.oc [.ints .u32 Q.E.ks],D.oc [.ints .i64 Q.E.x1, .ints .i64 Q.E.x2, .ints .i64 Q.E.x3, .ints .i64 Q.E.x4, .ints .i64 Q.E.x5, .ints .u64 Q.E.x6],D.oc [.ints .i64 Q.E.nx],D.oc [.bools Q.E.us],i64 Q.E.fr,D.oc [.ints .u32 Q.E.kx, .ints .i64 Q.E.px, .bools Q.E.ux],D.oc [.ints .i64 Q.E.ps],D.oc [.ints .i64 Q.E.no],i64 Q.E.h,i64 Q.E.t,D.oc [.ints .u32 Q.rv],u64 Q.ta,u64 Q.tl,u64 Q.tc],i64 0]))))))))))))))))) (fun e1=> .d (ai .eql (↑(Q.rv.length)) 8) (fun e2=> .lf (D.bF [D.agg [u32 0,i64 0,i64 0,i64 0,i64 0,i64 0,i64 0,i64 0,i64 0,i64 0,i64 0,i64 0,i64 0,i64 0,i64 0,u64 0,i64 0,D.v (Value.slice none 0 0),D.v (Value.slice none 0 0),D.v (Value.slice none 0 0),D.v (Value.slice none 0 0),i64 0,D.v (Value.slice none 0 0),D.v (Value.slice none 0 0),D.v (Value.slice none 0 0),i64 0,i64 0,i64 0,D.v (Value.slice none 0 0),D.v (Value.slice none 0 0),D.v (Value.slice none 0 0),D.v (Value.slice none 0 0),i64 0,D.v (Value.slice none 0 0),D.v (Value.slice none 0 0),D.v (Value.slice none 0 0),i64 0,i64 0,D.v (Value.slice none 0 0),u64 0,u64 0,u64 0],i64 18])) (fun e2=> .p (.l [[4,5,6,7]] [(128,128),(192,192),(480,480),(481,481),(482,482),(483,483),(484,484),(485,485),(486,486),(487,487),(488,488),(489,489),(490,490),(491,491),(492,492),(493,493),(494,494)] (ac1 Q u) (Ex.exit 0) (Wp Q 0 i k xs)) (.s ((aH.ints .u32 Q.rv).len=ah [.ints .u32 Q.rv]) (.q (ah [.ints .u32 Q.rv]) (.s ((ah [.ints .u32 Q.rv]+1)*4≤17592186044416) (.s (Runs Try.prog (CallsD Try.prog) (.code (.loop (af Try.prog 9 0))) (ac1 Q u).abs (Ex.exit 0) (Wp Q 0 i k xs).abs) (.k ((Wp Q 0 (aj .sub .i64 (↑(Q.rv.length+1)) 1) (Q.rv.length+1) (Q.rv ++ [u])=Wp Q 0 (aj .sub .i64 (↑(Q.rv.length+1)) 1) (Q.rv.length+1) (Q.rv ++ [u]))) rfl (.s (k=ah [.ints .u32 xs]) (.s (Q.E.no.length=ah [.ints .i64 Q.E.no]) (.s (Q.E.ps.length=ah [.ints .i64 Q.E.ps]) (.s (Q.E.kx.length=ah [.ints .u32 Q.E.kx, .ints .i64 Q.E.px, .bools Q.E.ux]) (.s (Q.E.us.length=ah [.bools Q.E.us]) (.s (Q.E.nx.length=ah [.ints .i64 Q.E.nx]) (.s (Q.E.x1.length=ah [.ints .i64 Q.E.x1, .ints .i64 Q.E.x2, .ints .i64 Q.E.x3, .ints .i64 Q.E.x4, .ints .i64 Q.E.x5, .ints .u64 Q.E.x6]) (.s (Q.E.ks.length=ah [.ints .u32 Q.E.ks]) (.s (Q.U.no.length=ah [.ints .i64 Q.U.no]) (.s (Q.U.ps.length=ah [.ints .i64 Q.U.ps]) (.s (Q.U.kx.length=ah [.ints .u32 Q.U.kx, .ints .i64 Q.U.px, .bools Q.U.ux]) (.s (Q.U.us.length=ah [.bools Q.U.us]) (.s (Q.U.nx.length=ah [.ints .i64 Q.U.nx]) (.s (Q.U.x1.length=ah [.ints .i64 Q.U.x1, .ints .i64 Q.U.x2, .ints .i64 Q.U.x3, .ints .i64 Q.U.x4, .ints .i64 Q.U.x5, .ints .u64 Q.U.x6]) (.s (Q.U.ks.length=ah [.ints .u32 Q.U.ks]) (.lf (D.bF [D.agg [u32 Q.te,i64 Q.b0,i64 Q.r0,i64 Q.p0,i64 Q.b1,i64 Q.r1,i64 Q.p1,i64 Q.b2,i64 Q.r2,i64 Q.p2,i64 Q.ob,i64 Q.orr,i64 Q.op,i64 Q.ov,i64 Q.oq,u64 Q.oa,i64 Q.U.n,D.oc [.ints .u32 Q.U.ks],D.oc [.ints .i64 Q.U.x1, .ints .i64 Q.U.x2, .ints .i64 Q.U.x3, .ints .i64 Q.U.x4, .ints .i64 Q.U.x5, .ints .u64 Q.U.x6],D.oc [.ints .i64 Q.U.nx],D.oc [.bools Q.U.us],i64 Q.U.fr,D.oc [.ints .u32 Q.U.kx, .ints .i64 Q.U.px, .bools Q.U.ux],D.oc [.ints .i64 Q.U.ps],D.oc [.ints .i64 Q.U.no],i64 Q.U.h,i64 Q.U.t,i64 Q.E.n,D.oc [.ints .u32 Q.E.ks],D.oc [.ints .i64 Q.E.x1, .ints .i64 Q.E.x2, .ints .i64 Q.E.x3, .ints .i64 Q.E.x4, .ints .i64 Q.E.x5, .ints .u64 Q.E.x6],D.oc [.ints .i64 Q.E.nx],D.oc [.bools Q.E.us],i64 Q.E.fr,D.oc [.ints .u32 Q.E.kx, .ints .i64 Q.E.px, .bools Q.E.ux],D.oc [.ints .i64 Q.E.ps],D.oc [.ints .i64 Q.E.no],i64 Q.E.h,i64 Q.E.t,D.oc [.ints .u32 xs],u64 Q.ta,u64 Q.tl,u64 Q.tc],i64 0]))))))))))))))))))))))))))))
theorem ajM (Q:Pt) (u i:Int) (k:Nat) (xs:List Int):Leaves (fun l=>cu Try.prog (XP4) 100000 l 9 [Q.d,u32 u]) (Kz Q u i k xs) [] []:=by refine⟨fun _=>?_,fun _=>⟨fun _=>?_,fun _=>⟨fun _=>?_,fun _=>?_⟩⟩⟩<;>(show _=_;kernel_rfl)
theorem wZ (Q:Pt) (u i:Int) (k:Nat) (xs:List Int) (res:D) (h0:At (fun r=>res=r) (Kz Q u i k xs) [true] True) (h1:At (fun r=>res=r) (Kz Q u i k xs) [false,true] True) (h2:At (fun r=>res=r) (Kz Q u i k xs) [false,false,true] True) (h3:At (fun r=>res=r) (Kz Q u i k xs) [false,false,false] True):CallsD Try.prog 9 [Q.d,u32 u] res:=au (U9) (ajM Q u i k xs) ⟨fun e0=>h0 e0,fun e0=>⟨fun e1=>h1 e0 e1,fun e1=>⟨fun e2=>h2 e0 e1 e2,fun e2=>h3 e0 e1 e2⟩⟩⟩
theorem Xe {Q:Pt} (h:∀ i,i<Q.rv.length→rP Q i=false):srt Q.rv:=by
 have one:∀ i,i+1<Q.rv.length→Q.rv.getD i 0<Q.rv.getD (i+1) 0:=fun i hi=>by
  have:=h (i+1) hi
  unfold rP at this
  rw[decide_eq_true (by omega),Bool.true_and,iP,Nat.add_sub_cancel] at this
  omega
 have all:∀ d a,a+d+1<Q.rv.length→Q.rv.getD a 0<Q.rv.getD (a+d+1) 0:=fun d=>by
  induction d with
  |zero=>intro a ha;exact one a ha
  |succ d ih=>intro a ha;have h1:=ih a (by omega);have h2:=one (a+d+1) (by omega);rw[show a+(d+1)+1=a+d+1+1 by omega];omega
 intro a b hab hb
 have:=all (b - a - 1) a (by omega)
 rw[show a+(b - a - 1)+1=b by omega] at this
 exact this
noncomputable def Lm (Q:Pt) (u:Int):Pt:=if lG Q=0 then(if u∈Q.rv then Q else if Q.rv.length=8 then q0 else { Q with rv:=insL Q.rv u (jg Q.rv u) }) else q0
noncomputable def Va (Q:Pt) (u:Int):Int:=if lG Q=0 then(if u∈Q.rv then 0 else if Q.rv.length=8 then 18 else 0) else lG Q
theorem afy (Q:Pt) (u:Int) (h:uJ Q):CallsD Try.prog 9 [Q.d,u32 u] (.bF [(Lm Q u).o,i64 (Va Q u)]):=by
 have tq:=pG h
 have rl:=h.2.2.2
 by_cases c:lG Q=0
 ·by_cases m:u∈Q.rv
  ·unfold Lm Va
   rw[if_pos c,if_pos m,if_pos c,if_pos m]
   have f1:isB Q.rv u=true:=by rw[Qp,decide_eq_true m]
   refine wZ Q u 0 0 [] _ ?_ ?_ ?_ ?_<;>dsimp only[At,Tr.q,Kz]
   ·intro g;rw[aP] at g;exact absurd c g
   ·intro _ _;exact⟨by(repeat' (first | assumption | apply And.intro))<;>first | exact trivial | rfl,rfl⟩
   ·intro _ g;rw[f1] at g;cases g
   ·intro _ g;rw[f1] at g;cases g
  ·have f1:isB Q.rv u=false:=by rw[Qp,decide_eq_false m]
   by_cases l:Q.rv.length=8
   ·unfold Lm Va
    rw[if_pos c,if_neg m,if_pos l,if_pos c,if_neg m,if_pos l]
    refine bH (bM.bF (.cons Gs (.refl _))) ?_
    refine wZ Q u 0 0 [] _ ?_ ?_ ?_ ?_<;>dsimp only[At,Tr.q,Kz]
    ·intro g;rw[aP] at g;exact absurd c g
    ·intro _ g;rw[f1] at g;cases g
    ·intro _ _ _;exact⟨by(repeat' (first | assumption | apply And.intro))<;>first | exact trivial | rfl,rfl⟩
    ·intro _ _ g;rw[je] at g;omega
   ·have k:=(D7 c).2.2.2.2.2.2.2.2
    have run:=ak (Yp Q u (Xe k.2) m k.1 (Q.rv.length - jg Q.rv u) Q.rv.length (by have:=NK Q.rv u;omega) (Nat.le_refl _))
    have e0:insL Q.rv u Q.rv.length=Q.rv ++ [u]:=by unfold insL;rw[List.take_length,List.drop_length]
    have e1:aj .sub .i64 ((Q.rv.length+1:Nat):Int) 1=(Q.rv.length:Int):=by rw[eY,aT (by omega) (by omega)];omega
    rw[e0,←e1] at run
    have il:=BK Q.rv u (i:=jg Q.rv u) (NK Q.rv u)
    unfold Lm Va
    rw[if_pos c,if_neg m,if_neg l,if_pos c,if_neg m,if_neg l]
    refine wZ Q u (jg Q.rv u) (Q.rv.length+1) (insL Q.rv u (jg Q.rv u)) _ ?_ ?_ ?_ ?_<;>dsimp only[At,Tr.q,Kz]
    ·intro g;rw[aP] at g;exact absurd c g
    ·intro _ g;rw[f1] at g;cases g
    ·intro _ _ g;rw[iM] at g;omega
    ·intro _ _ _
     refine⟨?_,rfl⟩
     (repeat' (first | assumption | apply And.intro))<;>first | exact trivial | rfl | exact run | omega | (simp only[ah,aH.len]<;>omega)
 ·unfold Lm Va
  rw[if_neg c,if_neg c]
  refine bH (bM.bF (.cons Gs (.refl _))) ?_
  refine wZ Q u 0 0 [] _ ?_ ?_ ?_ ?_<;>dsimp only[At,Tr.q,Kz]
  ·intro _;exact⟨by(repeat' (first | assumption | apply And.intro))<;>exact trivial,rfl⟩
  ·intro g;rw[aY] at g;exact absurd g c
  ·intro g;rw[aY] at g;exact absurd g c
  ·intro g;rw[aY] at g;exact absurd g c
end TableS
end

section
namespace InsS
open Go Go.Proofs Go.Shelf Go.RowKit Go.Lib
theorem info22:(Try.prog.info? 22).map (fun i=>(i.zero,i.size,i.bytes))=some (some (.int .u32 0),1,4):=by kernel_rfl
theorem mixed:Try.prog.follows .mixedOrders=true:=by kernel_rfl
theorem ab8:(Try.prog.info? 22).map (·.size)=some 1:=by kernel_rfl
set_option maxHeartbeats 4000000 in
set_option maxRecDepth 100000 in
theorem shift (b off n c i vb voff m vc:Nat) (cs vs:List Value) (w:World) (hi:i<n) (hm:0<m) (hn:n+m<1000) (hroom:n+m≤c) (hvb:vb≠b)
  (hcl:cs.length=n) (hvl:vs.length=m)
  (hcs:∀ j v,cs[j]? =some v→w.cell? ⟨b,off+j,none⟩=some v) (hsp:∀ j,j<n+m→(w.cell? ⟨b,off+j,none⟩).isSome=true) (hfz:∀ j,j<n+m→w.frozen? ⟨b,off+j,none⟩=false)
  (hvs:∀ j v,vs[j]? =some v→w.cell? ⟨vb,voff+j,none⟩=some v) (h1c:∀ v∈cs,v.oneCell'=true) (h1v:∀ v∈vs,v.oneCell'=true)
  (tA tB:TypeId) (kA kB:Nat) (hsa:w.shape? vb=some (tA,kA)) (hsb:w.shape? b=some (tB,kB)) (hkB:kB≠0) (hfa:w.frozen? ⟨vb,voff,none⟩=false) (hfe:w.frozen? ⟨vb,kA,none⟩=false):
  Calls Try.prog 28 #[.slice (some ⟨b,off,none⟩) n c, .int .i64 i, .slice (some ⟨vb,voff,none⟩) m vc] w fun e w'=>
   e= .returned (.slice (some ⟨b,off,none⟩) (n+m) c)∧w'=(w.drew.setCells b (off+(i+m)) (cs.drop i)).setCells b (off+i) vs:=by
 have hz1:¬ ((m:Int)=0):=by omega
 have hz2:¬ ((i:Int)=(n:Int)):=by omega
 have hov:∀ lb cb,(callFunc 51 #[.slice (some ⟨vb,voff,none⟩) m vc, .slice (some ⟨b,off+(i+m),none⟩) lb cb]).run Try.prog w= .ok (.value (.bool false)) w:=fun lb cb=>by
  rw[run_callFunc_extern Try.func51 (by kernel_rfl) (by kernel_rfl) (by kernel_rfl) (e:=Extern.SlicesOverlaps.overlaps #[29,29] #[4]) (by kernel_rfl),
   Lib.run_overlaps_apart w 29 4 22 Try.underlying29 1 Try.sizeOf22 ⟨vb,voff,none⟩ ⟨b,off+(i+m),none⟩ m vc lb cb hvb tA tB kA kB hsa hsb hkB hfa hfe]
  rfl
 have hdl:(cs.drop i).length=n - i:=by rw[List.length_drop,hcl]
 have mixed:=mixed
 have hw1:IntKind.i64.wrap ((i:Int)+(m:Int))=(i:Int)+(m:Int):=by rw[IntKind.wrap_i64];omega
 have hw2:IntKind.i64.wrap ((n:Int)+(m:Int))=(n:Int)+(m:Int):=by rw[IntKind.wrap_i64];omega
 have hb1:(0:Int)≤(i:Int)+(m:Int):=by omega
 have hin:i≤n:=by omega
 have htn:((i:Int)+(m:Int)).toNat=i+m:=by omega
 have hb2:¬ (c=i+m):=by omega
 have hb3:(i:Int)≤(n:Int)+(m:Int):=by omega
 have hb4:¬ (c=i):=by omega
 have hcp1:∀ ty dc sc,(Builtin.copy_ #[29,29] ty #[.slice (some ⟨b,off+(i+m),none⟩) (n+m - (i+m)) dc, .slice (some ⟨b,off+i,none⟩) (n+m - i) sc]).run Try.prog w.drew= .ok (goInt (cs.drop i).length) (w.drew.setCells b (off+(i+m)) (cs.drop i)):=fun ty dc sc=>
  run_copy_cells w.drew _ _ ty 22 b (off+(i+m)) (n+m - (i+m)) dc ⟨b,off+i,none⟩ (n+m - i) sc (cs.drop i) Try.underlying29 ab8 (by rw[hdl];simp only[Nat.min_def];split<;>omega)
   (fun j v hj=>by rw[Addr.add_lit,Nat.add_assoc];exact hcs (i+j) v (by rwa[List.getElem?_drop] at hj))
   (fun j hj=>by rw[Nat.add_assoc];exact hsp _ (by omega)) (fun j hj=>by rw[Nat.add_assoc];exact hfz _ (by omega)) (fun v hv=>h1c v (List.mem_of_mem_drop hv))
 obtain⟨W1,hW1⟩:∃ W1,W1=w.drew.setCells b (off+(i+m)) (cs.drop i):=⟨_,rfl⟩
 have hsp1:∀ k,k<n+m→(W1.cell? ⟨b,off+k,none⟩).isSome=true:=fun k hk=>by
  rw[hW1]
  exact isSome_setCells b _ _ _ (fun j hj=>by rw[Nat.add_assoc];exact hsp _ (by omega)) _ (hsp k hk)
 have hcp2:∀ (W:World),(∀ x,W.cell? x=W1.cell? x)→(∀ x,W.frozen? x=W1.frozen? x)→∀ ty dc,(Builtin.copy_ #[29,29] ty #[.slice (some ⟨b,off+i,none⟩) (n+m - i) dc, .slice (some ⟨vb,voff,none⟩) m vc]).run Try.prog W= .ok (goInt vs.length) (W.setCells b (off+i) vs):=fun W hWc hWf ty dc=>
  run_copy_cells W _ _ ty 22 b (off+i) (n+m - i) dc ⟨vb,voff,none⟩ m vc vs Try.underlying29 ab8 (by rw[hvl];simp only[Nat.min_def];split<;>omega)
   (fun j v hj=>by
    rw[Addr.add_lit,hWc,hW1,World.cell?_setCells_out b _ _ _ _ (fun h _=>absurd h hvb)]
    exact hvs j v hj)
   (fun j hj=>by rw[hWc,Nat.add_assoc];exact hsp1 _ (by omega)) (fun j hj=>by rw[hWf,hW1,World.frozen?_setCells,Nat.add_assoc];exact hfz _ (by omega)) h1v
 rw[←hW1] at hcp1
 go_enter Try.func28,Try.ntmps28
 go_wp2_with (simp only[hov])
 go_region_law_o (refine step_copy_runI rfl _ _ 29 29 rfl _ _ (by simp[Act.eval,Act.put]) (by simp[Act.eval,Act.put]) (hcp1 _ _ _) ?_)
 go_wp2_with (at_builtin;refine wpList_copy_runI _ rfl _ _ 29 29 rfl _ _ rfl rfl (hcp2 _ (fun _=>rfl) (fun _=>rfl) _ _) ?_)
 go_ret
 first | exact⟨rfl,rfl⟩ | exact⟨rfl,by rw[hW1]⟩
set_option maxHeartbeats 4000000 in
set_option maxRecDepth 100000 in
theorem Zj (b off n c vb voff m vc:Nat) (vs:List Value) (w:World) (hm:0<m) (hn:n+m<1000) (hroom:n+m≤c)
  (hvl:vs.length=m) (hsp:∀ j,j<m→(w.cell? ⟨b,off+n+j,none⟩).isSome=true) (hfz:∀ j,j<m→w.frozen? ⟨b,off+n+j,none⟩=false)
  (hvs:∀ j v,vs[j]? =some v→w.cell? ⟨vb,voff+j,none⟩=some v) (h1v:∀ v∈vs,v.oneCell'=true):
  Calls Try.prog 28 #[.slice (some ⟨b,off,none⟩) n c, .int .i64 n, .slice (some ⟨vb,voff,none⟩) m vc] w fun e w'=>
   e= .returned (.slice (some ⟨b,off,none⟩) (n+m) c)∧w'=w.setCells b (off+n) vs:=by
 have mixed:=mixed
 have hz1:¬ ((m:Int)=0):=by omega
 have hsrc:Src Try.prog 1 29 (.slice (some ⟨vb,voff,none⟩) m vc) m vs w:=Src.ofSlice w Try.underlying29 ⟨vb,voff,none⟩ m vc vs (by omega) (fun j u hj=>by rw[Addr.add_lit];exact hvs j u hj) h1v
 go_enter Try.func28,Try.ntmps28
 go_wp2_with (at_builtin;refine wpList_append_room1 _ rfl _ _ 29 29 rfl 22 _ _ Try.underlying29 info22 b off n c rfl _ rfl m vs hsrc hroom (by rw[hvl];exact hsp) (by rw[hvl];exact hfz) ?_)
 go_ret
 exact⟨rfl,rfl⟩
set_option maxHeartbeats 4000000 in
set_option maxRecDepth 100000 in
theorem Xm (base:Option Addr) (n c vb voff m vc:Nat) (cs vs:List Value) (w:World) (hm:0<m) (hn:n+m<1000) (hnc:n≤c) (hroom:c<n+m)
  (hcl:cs.length=n) (hvl:vs.length=m) (hnil:base=none→n=0)
  (hcs:∀ a,base=some a→∀ j v,cs[j]? =some v→w.cell? (a.add j)=some v)
  (hvs:∀ j v,vs[j]? =some v→w.cell? ⟨vb,voff+j,none⟩=some v) (h1v:∀ v∈vs,v.oneCell'=true):
  Calls Try.prog 28 #[.slice base n c, .int .i64 n, .slice (some ⟨vb,voff,none⟩) m vc] w fun e w'=>
   e= .returned (.slice (some ⟨w.heap.size,0,none⟩) (n+m) (grownCap w (n+m) c 22))∧
   w'=w.drew.alloc (.cells ((cs ++ vs).toArray ++ Builtin.zeroCells (Value.int .u32 0).cells (grownCap w (n+m) c 22 - (n+m))) 22):=by
 have mixed:=mixed
 obtain⟨i0,hi0,hz0,hzs,hzb⟩:=info_parts info22
 have hz1:¬ ((m:Int)=0):=by omega
 have hsrc:Src Try.prog i0.size 29 (.slice (some ⟨vb,voff,none⟩) m vc) m vs w:=by
  rw[hzs]
  exact Src.ofSlice w Try.underlying29 ⟨vb,voff,none⟩ m vc vs (by omega) (fun j u hj=>by rw[Addr.add_lit];exact hvs j u hj) h1v
 have hold:(Builtin.firstCells i0.size n (.slice base n c)).run Try.prog w.drew= .ok cs.toArray w.drew:=by
  rw[hzs]
  cases base with
  |none=>
   have h0:=hnil rfl
   subst h0
   rw[List.length_eq_zero_iff.1 hcl]
   exact run_firstCells_none w.drew 1 0 0 c
  |some a=>exact run_firstCells_some w.drew 1 n a n c cs (by omega) (fun j v hj=>hcs a rfl j v hj)
 have hrun:∀ ty,(Builtin.append_ #[29,29] ty #[.slice base n c, .slice (some ⟨vb,voff,none⟩) m vc]).run Try.prog w=_:=fun ty=>
  run_append_grow_src w 29 29 ty 22 i0 _ Try.underlying29 hi0 hz0 base n c cs hold _ m vs hsrc hroom (by omega) (by rw[hzb];exact growslice_fits hroom (by omega))
 go_enter Try.func28,Try.ntmps28
 cases base with
 |none=>
  have h0:=hnil rfl
  subst h0
  go_wp2_with (at_builtin;refine Lib.wpList_append_run _ rfl _ _ _ _ rfl _ _ rfl rfl _ _ (hrun _) ?_)
  go_ret
  exact⟨rfl,rfl⟩
 |some a=>
  obtain⟨ab,ao,asp⟩:=a
  go_wp2_with (at_builtin;refine Lib.wpList_append_run _ rfl _ _ _ _ rfl _ _ rfl rfl _ _ (hrun _) ?_)
  all_goals (go_ret;exact⟨rfl,rfl⟩)
set_option maxHeartbeats 4000000 in
set_option maxRecDepth 100000 in
theorem grow (b off n c i vb voff m vc:Nat) (cs vs:List Value) (w:World) (hi:i<n) (hm:0<m) (hn:n+m<1000) (hnc:n≤c) (hroom:c<n+m)
  (hcl:cs.length=n) (hvl:vs.length=m)
  (hcs:∀ j v,cs[j]? =some v→w.cell? ⟨b,off+j,none⟩=some v)
  (hvs:∀ j v,vs[j]? =some v→w.cell? ⟨vb,voff+j,none⟩=some v) (h1c:∀ v∈cs,v.oneCell'=true) (h1v:∀ v∈vs,v.oneCell'=true):
  Calls Try.prog 28 #[.slice (some ⟨b,off,none⟩) n c, .int .i64 i, .slice (some ⟨vb,voff,none⟩) m vc] w fun e w'=>
   e= .returned (.slice (some ⟨w.heap.size,0,none⟩) (n+m) (grownCap w (n+m) c 22))∧
   w'=(((w.alloc (.cells ((cs.take i).toArray ++ Builtin.zeroCells (Value.int .u32 0).cells (n+m - i) ++ Builtin.zeroCells (Value.int .u32 0).cells (grownCap w (n+m) c 22 - (n+m))) 22)).drew.setCells w.heap.size i vs).drew).setCells w.heap.size (i+m) (cs.drop i):=by
 have mixed:=mixed
 obtain⟨i0,hi0,hz0,hzs,hzb⟩:=info_parts info22
 have hz1:¬ ((m:Int)=0):=by omega
 have hz2:¬ ((i:Int)=(n:Int)):=by omega
 have hz3:(c:Int)<(n:Int)+(m:Int):=by omega
 have hbw:b<w.heap.size:=block_lt_of_cell (hcs 0 _ (List.getElem?_eq_getElem (by omega)))
 have hvw:vb<w.heap.size:=block_lt_of_cell (hvs 0 _ (List.getElem?_eq_getElem (by omega)))
 have hkk:(n:Int)+(m:Int) - (i:Int)=((n+m - i:Nat):Int):=by omega
 have hik:i+(n+m - i)=n+m:=by omega
 have hold:(Builtin.firstCells i0.size i (.slice (some ⟨b,off,none⟩) i c)).run Try.prog w.drew= .ok (cs.take i).toArray w.drew:=by
  rw[hzs]
  exact run_firstCells_some w.drew 1 i ⟨b,off,none⟩ i c (cs.take i) (by rw[List.length_take];omega) (fun j v hj=>by
   rw[Addr.add_lit]
   rw[List.getElem?_take] at hj
   split at hj
   ·exact hcs j v hj
   ·cases hj)
 have hrz:∀ ty,(Builtin.append_ #[29,3] ty #[.slice (some ⟨b,off,none⟩) i c, .int .i64 ((n:Int)+(m:Int) - (i:Int))]).run Try.prog w =
   .ok (.slice (some ⟨w.heap.size,0,none⟩) (n+m) (grownCap w (n+m) c 22)) (w.drew.alloc (.cells ((cs.take i).toArray ++ Builtin.zeroCells (Value.int .u32 0).cells (n+m - i) ++ Builtin.zeroCells (Value.int .u32 0).cells (grownCap w (n+m) c 22 - (n+m))) 22)):=fun ty=>by
  have h:=Lib.run_append_grow_zeros w 29 3 ty 22 i0 _ .i64 .i64 Try.underlying29 Try.underlying3 hi0 hz0 (some ⟨b,off,none⟩) i c (cs.take i) hold (n+m - i) (by omega) (by omega) (by omega) (by omega) (by rw[hzb];omega) (by rw[hzb,hik];exact growslice_fits hroom (by omega))
  rw[hik] at h
  rw[hkk]
  exact h
 obtain⟨G,hG⟩:∃ G,G=grownCap w (n+m) c 22:=⟨_,rfl⟩
 obtain⟨ROW,hROW⟩:∃ ROW:Array Value,ROW=(cs.take i).toArray ++ Builtin.zeroCells (Value.int .u32 0).cells (n+m - i) ++ Builtin.zeroCells (Value.int .u32 0).cells (G - (n+m)):=⟨_,rfl⟩
 rw[←hG] at hrz ⊢
 rw[←hROW] at hrz ⊢
 have hRl:n+m≤ROW.size:=by
  rw[hROW]
  simp[Builtin.zeroCells,Value.cells]
  omega
 obtain⟨W1,hW1⟩:∃ W1,W1=w.drew.alloc (.cells ROW 22):=⟨_,rfl⟩
 rw[←hW1] at hrz
 have hN:∀ j,j<n+m→(W1.cell? ⟨w.heap.size,j,none⟩).isSome=true:=fun j hj=>by
  rw[hW1,World.cell?_alloc_at (w:=w.drew) ROW _ w.heap.size j rfl,Array.getElem?_eq_getElem (by omega)];rfl
 have hNf:∀ j,W1.frozen? ⟨w.heap.size,j,none⟩=false:=fun j=>by rw[hW1];exact World.frozen?_alloc_at (w:=w.drew) ROW _ w.heap.size j rfl
 have hOb:∀ j v,w.cell? ⟨b,j,none⟩=some v→W1.cell? ⟨b,j,none⟩=some v:=fun j v h=>by rw[hW1,World.cell?_alloc_past (w:=w.drew) _ b j hbw];exact h
 have hOv:∀ j v,w.cell? ⟨vb,j,none⟩=some v→W1.cell? ⟨vb,j,none⟩=some v:=fun j v h=>by rw[hW1,World.cell?_alloc_past (w:=w.drew) _ vb j hvw];exact h
 have hcpA:∀ (W:World),(∀ x,W.cell? x=W1.cell? x)→(∀ x,W.frozen? x=W1.frozen? x)→∀ ty dc,(Builtin.copy_ #[29,29] ty #[.slice (some ⟨w.heap.size,i,none⟩) (n+m - i) dc, .slice (some ⟨vb,voff,none⟩) m vc]).run Try.prog W= .ok (goInt vs.length) (W.setCells w.heap.size i vs):=fun W hWc hWf ty dc=>
  run_copy_cells W _ _ ty 22 w.heap.size i (n+m - i) dc ⟨vb,voff,none⟩ m vc vs Try.underlying29 ab8 (by rw[hvl];simp only[Nat.min_def];split<;>omega)
   (fun j v hj=>by rw[Addr.add_lit,hWc];exact hOv _ v (hvs j v hj))
   (fun j hj=>by rw[hWc];exact hN _ (by omega)) (fun j hj=>by rw[hWf];exact hNf _) h1v
 have hGn:n+m≤G:=by rw[hG];exact grownCap_ge w _ _ _
 have hG63:G≤9223372036854775807:=by
  have:=grownCap_le_maxLen w (n+m) c 22 (by unfold maxLen;omega)
  rw[←hG] at this
  unfold maxLen at this
  omega
 have hGi:¬ (G=i):=by omega
 have hGim:¬ (G=i+m):=by omega
 have hci:¬ (c=i):=by omega
 have hbN:b≠w.heap.size:=by omega
 have hdl:(cs.drop i).length=n - i:=by rw[List.length_drop,hcl]
 have hcpB:∀ (W:World),(∀ x,W.cell? x=(W1.setCells w.heap.size i vs).cell? x)→(∀ x,W.frozen? x=(W1.setCells w.heap.size i vs).frozen? x)→∀ ty dc sc,(Builtin.copy_ #[29,29] ty #[.slice (some ⟨w.heap.size,i+m,none⟩) (n+m - (i+m)) dc, .slice (some ⟨b,off+i,none⟩) (n - i) sc]).run Try.prog W= .ok (goInt (cs.drop i).length) (W.setCells w.heap.size (i+m) (cs.drop i)):=fun W hWc hWf ty dc sc=>
  run_copy_cells W _ _ ty 22 w.heap.size (i+m) (n+m - (i+m)) dc ⟨b,off+i,none⟩ (n - i) sc (cs.drop i) Try.underlying29 ab8 (by rw[hdl];simp only[Nat.min_def];split<;>omega)
   (fun j v hj=>by
    rw[Addr.add_lit,hWc,World.cell?_setCells_out _ _ _ _ _ (fun h _=>absurd h hbN),Nat.add_assoc]
    exact hOb _ v (hcs (i+j) v (by rwa[List.getElem?_drop] at hj)))
   (fun j hj=>by rw[hWc];exact isSome_setCells _ _ _ _ (fun t ht=>hN _ (by omega)) _ (hN _ (by omega)))
   (fun j hj=>by rw[hWf,World.frozen?_setCells];exact hNf _) (fun v hv=>h1c v (List.mem_of_mem_drop hv))
 subst hW1
 have hE1:∀ x,((w.alloc (.cells ROW 22)).drew).cell? x=(w.drew.alloc (.cells ROW 22)).cell? x:=fun x=>rfl
 have hE2:∀ x,((w.alloc (.cells ROW 22)).drew).frozen? x=(w.drew.alloc (.cells ROW 22)).frozen? x:=fun x=>rfl
 have hF1:∀ x,(((w.alloc (.cells ROW 22)).drew.setCells w.heap.size i vs).drew).cell? x=((w.drew.alloc (.cells ROW 22)).setCells w.heap.size i vs).cell? x:=fun x=>rfl
 have hF2:∀ x,(((w.alloc (.cells ROW 22)).drew.setCells w.heap.size i vs).drew).frozen? x=((w.drew.alloc (.cells ROW 22)).setCells w.heap.size i vs).frozen? x:=fun x=>rfl
 have hw1:IntKind.i64.wrap ((i:Int)+(m:Int))=(i:Int)+(m:Int):=by rw[IntKind.wrap_i64];omega
 have hb1:(0:Int)≤(i:Int)+(m:Int):=by omega
 have hin:i≤n:=by omega
 have htn:((i:Int)+(m:Int)).toNat=i+m:=by omega
 have hb3:(i:Int)≤(n:Int):=by omega
 clear hkk hik hold hROW hG hRl
 go_enter Try.func28,Try.ntmps28
 go_wp2_with (first
  |(at_builtin;refine Lib.wpList_append_run _ rfl _ _ _ _ rfl _ _ rfl rfl _ _ (hrz _) ?_)
  |(at_builtin;refine wpList_copy_runI _ rfl _ _ 29 29 rfl _ _ rfl rfl (hcpA _ hE1 hE2 _ _) ?_)
  |(at_builtin;refine wpList_copy_runI _ rfl _ _ 29 29 rfl _ _ rfl rfl (hcpB _ (fun _=>rfl) (fun _=>rfl) _ _ _) ?_))
 go_region_law_o (refine step_copy_runI rfl _ _ 29 29 rfl (.slice (some ⟨w.heap.size,i+m,none⟩) (n+m - (i+m)) (G - (i+m))) (.slice (some ⟨b,off+i,none⟩) (n - i) (c - i)) (by simp[Act.eval,Act.put]) (by simp[Act.eval,Act.put]) (hcpB _ hF1 hF2 3 (G - (i+m)) (c - i)) ?_)
 go_wp2
 go_ret
 exact⟨rfl,rfl⟩
end InsS
end

section
namespace InsS
open Go Go.Proofs Go.Shelf Go.RowKit Go.Lib Go.Dam
set_option maxRecDepth 100000
theorem oD (b:Nat):∀ (vs:List Value) (o:Nat) (w:World),w.grownBy (w.setCells b o vs) (some b)∧∀ cc T fz,w.heap[b]? =some (.cells cc T fz)→∃ cc':Array Value,(w.setCells b o vs).heap[b]? =some (.cells cc' T fz)∧cc'.size=cc.size
 |[],o,w=>⟨⟨rfl,rfl,rfl,Nat.le_refl _,fun _ _ _=>rfl⟩,fun cc T fz h=>⟨cc,h,rfl⟩⟩
 |v::r,o,w=>by
  obtain⟨h1,h2⟩:=oD b r (o+1) (w.setCell ⟨b,o,none⟩ v)
  rw[World.setCells]
  refine⟨⟨h1.os,h1.tape,h1.output,by have:=h1.size;simpa [World.setCell] using this,fun k hk hne=>?_⟩,fun cc T fz h=>?_⟩
  ·rw[h1.block k (by simpa [World.setCell] using hk) hne]
   simp only[World.setCell,Array.getElem?_modify]
   rw[if_neg (fun e=>hne (by rw[e]))]
  ·obtain⟨cc',q1,q2⟩:=h2 (cc.setIfInBounds o v) T fz (by simp[World.setCell,Array.getElem?_modify,h])
   exact⟨cc',q1,by rw[q2];simp⟩
theorem aal (xs:List Int) (u:Int) (n k:Nat) (h:n≤xs.length):(xs.take n ++ u::xs.drop n)[k]? =if k<n then xs[k]? else if k=n then some u else xs[k - 1]? :=by
 have hl:(xs.take n).length=n:=by simp;omega
 split
 ·rw[List.getElem?_append_left (by omega),List.getElem?_take,if_pos (by omega)]
 ·rw[List.getElem?_append_right (by omega),hl]
  split
  next e=>subst e;simp
  ·obtain⟨d,rfl⟩:∃ d,k=n+1+d:=⟨k - n - 1,by omega⟩
   rw[show n+1+d - n=d+1 by omega,List.getElem?_cons_succ,List.getElem?_drop,show n+1+d - 1=n+d by omega]
theorem cell_of {w:World} {b k:Nat} {cc:Array Value} {T:TypeId} {fz:Nat×Nat} (h:w.heap[b]? =some (.cells cc T fz)):w.cell? ⟨b,k,none⟩=cc[k]? :=by simp[World.cell?,h]
theorem zc (n:Nat):(Builtin.zeroCells (Value.int .u32 0).cells n).size=n:=by
 have:(Value.cells (.int .u32 0)).size=1:=rfl
 rw[size_zeroCells,this];omega
theorem aaX (xs:List Int) (u:Int) (n:Nat) (hn:n≤xs.length) (hl:xs.length≤100):NV Try.prog 28 (xs.map (.int .u32)) (.int .i64 (n:Int)) (.int .u32 u) ((xs.take n ++ u::xs.drop n).map (.int .u32)):=by
 intro w so c vb vc pre hvs hvo hvx
 obtain⟨vb,voff,vs0⟩:=vb
 simp only at hvs hvo pre;subst hvs
 obtain⟨vcc,vT,hvo⟩:=hvo
 obtain⟨cs,hcs⟩:∃ cs,cs=xs.map (Value.int .u32):=⟨_,rfl⟩
 have hcl:cs.length=xs.length:=by rw[hcs];simp
 have h1c:∀ v∈cs,v.oneCell'=true:=fun v hv=>by
  rw[hcs] at hv
  obtain⟨x,_,rfl⟩:=List.mem_map.1 hv
  rfl
 have h1v:∀ v∈[Value.int .u32 u],v.oneCell'=true:=fun v hv=>by simp at hv;subst hv;rfl
 have hvv:∀ (j:Nat) v,[Value.int .u32 u][j]? =some v→w.cell? ⟨vb,voff+j,none⟩=some v:=fun j v hj=>by
  cases j with
  |zero=>simp at hj;subst hj;exact hvx
  |succ j=>simp at hj
 have hylen:((xs.take n ++ u::xs.drop n).map (Value.int .u32)).length=xs.length+1:=by simp;omega
 have hyget:∀ (k:Nat) (v:Value),((xs.take n ++ u::xs.drop n).map (Value.int .u32))[k]? =some v→if k<n then cs[k]? =some v else if k=n then v= .int .u32 u else cs[k - 1]? =some v:=fun k v hk=>by
  rw[List.getElem?_map,aal xs u n k hn] at hk
  rw[hcs]
  split
  next h=>rw[if_pos h] at hk;rw[List.getElem?_map];exact hk
  next h=>
   rw[if_neg h] at hk
   split
   next h'=>rw[if_pos h'] at hk;simpa using hk.symm
   next h'=>rw[if_neg h'] at hk;rw[List.getElem?_map];exact hk
 rw[←hcs] at pre ⊢
 rw[hylen]
 have ge:=grownCap_ge w (xs.length+1) c 22
 have fresh:∀ (w':World) (ROW:Array Value) (G:Nat),w'.heap[w.heap.size]? =some (.cells ROW 22 (0,0))→Below w.heap.size w w'→G≤ROW.size→xs.length+1≤G→
   (∀ k v,(if k<n then cs[k]? =some v else if k=n then v=Value.int .u32 u else cs[k - 1]? =some v)→k<xs.length+1→ROW[k]? =some v)→
   ∃ o c',Ending.returned (Value.slice (some ⟨w.heap.size,0,none⟩) (xs.length+1) G)= .returned (.slice (some o) (xs.length+1) c')∧KO w w' so c ((xs.take n ++ u::xs.drop n).map (Value.int .u32)) o c':=by
  intro w' ROW G h1 h2 h3 h4 h5
  refine⟨_,_,rfl,rfl,⟨ROW,22,h1,by simpa using h3⟩,by rw[hylen];exact h4,fun k v hk=>?_, .inl ⟨Nat.le_refl _,h2⟩⟩
  have hkl:k<xs.length+1:=by rw[←hylen];exact(List.getElem?_eq_some_iff.1 hk).1
  show w'.cell? ⟨w.heap.size,0+k,none⟩=_
  rw[cell_of h1,Nat.zero_add]
  exact h5 k v (hyget k v hk) hkl
 have endg:∀ (hnl:n=xs.length) (hc:xs.length≤c) (hr:c<xs.length+1) (hnil:so=none→xs.length=0) (hcells:∀ a,so=some a→∀ j v,cs[j]? =some v→w.cell? (a.add j)=some v),
   Calls Try.prog 28 #[.slice so xs.length c, .int .i64 (n:Int), .slice (some ⟨vb,voff,none⟩) 1 vc] w fun e w'=>∃ o c',e= .returned (.slice (some o) (xs.length+1) c')∧KO w w' so c ((xs.take n ++ u::xs.drop n).map (Value.int .u32)) o c':=by
  intro hnl hc hr hnil hcells
  rw[hnl]
  refine(Xm so xs.length c vb voff 1 vc cs [.int .u32 u] w (by decide) (by omega) hc hr hcl rfl hnil hcells hvv h1v).mono ?_
  rintro e w' ⟨rfl,rfl⟩
  rw[hnl] at fresh
  refine fresh _ _ _ (World.alloc_heap_new w.drew _) ((Below.refl _ _).drew.alloc (Nat.le_refl _) _) ?_ ge ?_
  ·simp only[Array.size_append,List.size_toArray,List.length_append,List.length_singleton,zc,hcl];omega
  ·intro k v hk hkl
   rw[Array.getElem?_append_left (by simp[hcl];exact hkl)]
   simp only[List.getElem?_toArray]
   split at hk
   next h=>rw[List.getElem?_append_left (by rw[hcl];exact h)];exact hk
   next h=>
    have:k=xs.length:=by omega
    rw[if_pos this] at hk
    rw[List.getElem?_append_right (by omega),hcl,this,Nat.sub_self,hk];rfl
 rcases pre with⟨e1,rfl⟩ | ⟨hc,⟨b,off,bs⟩,rfl,hbs,hne,⟨cc,T,hbo,hroom⟩,hcell⟩
 ·have e2:xs.length=0:=by rw[←hcl,e1];rfl
  rw[hcl]
  exact endg (by omega) (by omega) (by omega) (fun _=>e2) (fun a _ j v hj=>by rw[e1] at hj;simp at hj)
 ·simp only at hbs hne hroom hbo;subst hbs
  rw[hcl] at hc ⊢
  have hcc:∀ j v,cs[j]? =some v→w.cell? ⟨b,off+j,none⟩=some v:=hcell
  have hsp:∀ j,j<c→(w.cell? ⟨b,off+j,none⟩).isSome=true:=fun j hj=>by
   rw[cell_of hbo,Array.getElem?_eq_getElem (by omega)];rfl
  have hfz:∀ j,w.frozen? ⟨b,off+j,none⟩=false:=fun j=>by simp[World.frozen?,hbo]
  have inplace:∀ (w':World),w.grownBy w' (some b)→(∀ cc T fz,w.heap[b]? =some (.cells cc T fz)→∃ cc':Array Value,w'.heap[b]? =some (.cells cc' T fz)∧cc'.size=cc.size)→xs.length+1≤c→
    (∀ k v,(if k<n then cs[k]? =some v else if k=n then v=Value.int .u32 u else cs[k - 1]? =some v)→k<xs.length+1→w'.cell? ⟨b,off+k,none⟩=some v)→
    ∃ o c',Ending.returned (Value.slice (some ⟨b,off,none⟩) (xs.length+1) c)= .returned (.slice (some o) (xs.length+1) c')∧KO w w' (some ⟨b,off,none⟩) c ((xs.take n ++ u::xs.drop n).map (Value.int .u32)) o c':=by
   intro w' h1 h2 h3 h4
   obtain⟨cc',q1,q2⟩:=h2 cc T (0,0) hbo
   refine⟨_,_,rfl,rfl,⟨cc',T,q1,by simp only[q2];exact hroom⟩,by rw[hylen];exact h3,fun k v hk=>?_, .inr ⟨by omega,rfl,h1,h2⟩⟩
   have hkl:k<xs.length+1:=by rw[←hylen];exact(List.getElem?_eq_some_iff.1 hk).1
   exact h4 k v (hyget k v hk) hkl
  by_cases hend:n=xs.length
  ·rcases Nat.lt_or_ge c (xs.length+1) with hlt | hge
   ·exact endg hend hc hlt (fun h=>by cases h) (fun a ha j v hj=>by cases ha;rw[Addr.add_lit];exact hcc j v hj)
   ·rw[hend]
    refine(Zj b off xs.length c vb voff 1 vc [.int .u32 u] w (by decide) (by omega) hge rfl (fun j hj=>by rw[Nat.add_assoc];exact hsp _ (by omega)) (fun j hj=>by rw[Nat.add_assoc];exact hfz _) hvv h1v).mono ?_
    rintro e w' ⟨rfl,rfl⟩
    rw[hend] at inplace
    obtain⟨t1,t2⟩:=oD b [.int .u32 u] (off+xs.length) w
    refine inplace _ t1 t2 hge fun k v hk hkl=>?_
    split at hk
    next h=>
     rw[World.cell?_setCells_out b _ _ _ _ (fun _ _=> .inl (by show off+k<_;omega))]
     exact hcc k v hk
    next h=>
     have:k=xs.length:=by omega
     rw[if_pos this] at hk
     subst this
     have:=World.cell?_setCells_in b [.int .u32 u] (off+xs.length) w (fun j hj=>by rw[Nat.add_assoc];exact hsp _ (by simp at hj;omega)) 0 (by simp)
     rw[Nat.add_zero] at this
     rw[this,hk];rfl
  ·have hlt':n<xs.length:=by omega
   have hdl:(cs.drop n).length=xs.length - n:=by rw[List.length_drop,hcl]
   rcases Nat.lt_or_ge c (xs.length+1) with hlt | hge
   ·refine(grow b off xs.length c n vb voff 1 vc cs [.int .u32 u] w hlt' (by decide) (by omega) hc hlt hcl rfl hcc hvv h1c h1v).mono ?_
    rintro e w' ⟨rfl,rfl⟩
    obtain⟨ROW,hROW⟩:∃ ROW:Array Value,ROW=(cs.take n).toArray ++ Builtin.zeroCells (Value.int .u32 0).cells (xs.length+1 - n) ++ Builtin.zeroCells (Value.int .u32 0).cells (grownCap w (xs.length+1) c 22 - (xs.length+1)):=⟨_,rfl⟩
    have hRs:ROW.size=grownCap w (xs.length+1) c 22:=by
     rw[hROW];simp only[Array.size_append,List.size_toArray,List.length_take,zc,hcl];omega
    have hRg:∀ k v,k<n→cs[k]? =some v→ROW[k]? =some v:=fun k v hk hv=>by
     rw[hROW,Array.append_assoc,Array.getElem?_append_left (by simp[hcl];omega)]
     simp only[List.getElem?_toArray,List.getElem?_take,if_pos hk,hv]
    rw[←hROW]
    obtain⟨W0,hW0⟩:∃ W0,W0=(w.alloc (.cells ROW 22)).drew:=⟨_,rfl⟩
    obtain⟨W1,hW1⟩:∃ W1,W1=(W0.setCells w.heap.size n [.int .u32 u]).drew:=⟨_,rfl⟩
    rw[←hW0,←hW1]
    have b0:W0.heap[w.heap.size]? =some (.cells ROW 22 (0,0)):=by rw[hW0];exact World.alloc_heap_new w _
    obtain⟨t1,t2⟩:=oD w.heap.size [.int .u32 u] n W0
    obtain⟨R1,b1,s1⟩:=t2 _ _ _ b0
    obtain⟨t3,t4⟩:=oD w.heap.size (cs.drop n) (n+1) W1
    obtain⟨R2,b2,s2⟩:=t4 R1 22 (0,0) (by rw[hW1];exact b1)
    have bel:Below w.heap.size w (W1.setCells w.heap.size (n+1) (cs.drop n)):=by
     have z0:w.heap.size≤W0.heap.size:=by rw[hW0];simp[World.drew]
     have e0:Below w.heap.size w W0:=by rw[hW0];exact((Below.refl _ _).alloc (Nat.le_refl _) _).drew
     have e1:Below w.heap.size w (W0.setCells w.heap.size n [.int .u32 u]):=e0.grown t1 z0 (fun k h=>by cases h;exact Nat.le_refl _)
     have e2:Below w.heap.size w W1:=by rw[hW1];exact e1.drew
     exact e2.grown t3 e2.size (fun k h=>by cases h;exact Nat.le_refl _)
    have cl0:∀ k,W0.cell? ⟨w.heap.size,k,none⟩=ROW[k]? :=fun k=>cell_of b0
    have c1:∀ x,W1.cell? x=(W0.setCells w.heap.size n [.int .u32 u]).cell? x:=fun x=>by rw[hW1];rfl
    have some0:∀ k,k<xs.length+1→(W0.cell? ⟨w.heap.size,k,none⟩).isSome=true:=fun k hk=>by rw[cl0,Array.getElem?_eq_getElem (by omega)];rfl
    have some1:∀ k,k<xs.length+1→(W1.cell? ⟨w.heap.size,k,none⟩).isSome=true:=fun k hk=>by
     rw[c1]
     exact Go.Proofs.isSome_setCells _ _ _ _ (fun t ht=>some0 _ (by simp at ht;omega)) _ (some0 k hk)
    refine fresh _ R2 _ b2 bel (by rw[s2,s1,hRs];exact Nat.le_refl _) ge fun k v hk hkl=>?_
    rw[←cell_of (k:=k) b2]
    split at hk
    next h=>
     rw[World.cell?_setCells_out _ _ _ _ _ (fun _ _=> .inl (by show k<_;omega)),c1,World.cell?_setCells_out _ _ _ _ _ (fun _ _=> .inl (by show k<_;omega)),cl0]
     exact hRg k v h hk
    next h=>
     split at hk
     next e=>
      subst e
      rw[World.cell?_setCells_out _ _ _ _ _ (fun _ _=> .inl (by show k<_;omega)),c1]
      have:=World.cell?_setCells_in w.heap.size [.int .u32 u] k W0 (fun j hj=>some0 _ (by simp at hj;omega)) 0 (by simp)
      rw[Nat.add_zero] at this
      rw[this,hk];rfl
     next e=>
      have:=World.cell?_setCells_in w.heap.size (cs.drop n) (n+1) W1 (fun j hj=>some1 _ (by rw[hdl] at hj;omega)) (k - (n+1)) (by rw[hdl];omega)
      rw[show n+1+(k - (n+1))=k by omega] at this
      rw[this,←List.getElem?_eq_getElem,List.getElem?_drop,show n+(k - (n+1))=k - 1 by omega]
      exact hk
   ·refine(shift b off xs.length c n vb voff 1 vc cs [.int .u32 u] w hlt' (by decide) (by omega) hge (Ne.symm hne) hcl rfl hcc (fun j hj=>hsp j (by omega)) (fun j _=>hfz j) hvv h1c h1v vT T vcc.size cc.size
     (by simp[World.shape?,hvo]) (by simp[World.shape?,hbo]) (by omega) (by simp[World.frozen?,hvo]) (by simp[World.frozen?,hvo])).mono ?_
    rintro e w' ⟨rfl,rfl⟩
    obtain⟨W1,hW1⟩:∃ W1,W1=w.drew.setCells b (off+(n+1)) (cs.drop n):=⟨_,rfl⟩
    rw[←hW1]
    obtain⟨t1,t2⟩:=oD b (cs.drop n) (off+(n+1)) w.drew
    rw[←hW1] at t1 t2
    obtain⟨t3,t4⟩:=oD b [.int .u32 u] (off+n) W1
    refine inplace _ ⟨t3.os.trans t1.os,t3.tape.trans t1.tape,t3.output.trans t1.output,Nat.le_trans t1.size t3.size,fun k hk hne=>(t3.block k (Nat.lt_of_lt_of_le hk t1.size) hne).trans (t1.block k hk hne)⟩ ?_ hge ?_
    ·intro cc T fz h
     obtain⟨c1,q1,q2⟩:=t2 cc T fz h
     obtain⟨c2,q3,q4⟩:=t4 c1 T fz q1
     exact⟨c2,q3,q4.trans q2⟩
    ·have some0:∀ k,k<xs.length+1→(w.drew.cell? ⟨b,off+k,none⟩).isSome=true:=fun k hk=>hsp k (by omega)
     have some1:∀ k,k<xs.length+1→(W1.cell? ⟨b,off+k,none⟩).isSome=true:=fun k hk=>by
      rw[hW1]
      exact Go.Proofs.isSome_setCells _ _ _ _ (fun t ht=>by rw[Nat.add_assoc];exact some0 _ (by rw[hdl] at ht;omega)) _ (some0 k hk)
     intro k v hk hkl
     split at hk
     next h=>
      rw[World.cell?_setCells_out _ _ _ _ _ (fun _ _=> .inl (by show off+k<_;omega)),hW1,World.cell?_setCells_out _ _ _ _ _ (fun _ _=> .inl (by show off+k<_;omega))]
      exact hcc k v hk
     next h=>
      split at hk
      next e=>
       subst e
       have:=World.cell?_setCells_in b [.int .u32 u] (off+k) W1 (fun j hj=>by rw[Nat.add_assoc];exact some1 _ (by simp at hj;omega)) 0 (by simp)
       rw[Nat.add_zero] at this
       rw[this,hk];rfl
      next e=>
       rw[World.cell?_setCells_out _ _ _ _ _ (fun _ _=> .inr (by show _≤off+k;simp;omega)),hW1]
       have:=World.cell?_setCells_in b (cs.drop n) (off+(n+1)) w.drew (fun j hj=>by rw[Nat.add_assoc];exact some0 _ (by rw[hdl] at hj;omega)) (k - (n+1)) (by rw[hdl];omega)
       rw[show off+(n+1)+(k - (n+1))=off+k by omega] at this
       rw[this,←List.getElem?_eq_getElem,List.getElem?_drop,show n+(k - (n+1))=k - 1 by omega]
       exact hk
def adS:IntKind→List Int→Value→Value→Option (List Int×List Prop)
 | .u32,xs, .int .i64 i, .int .u32 u=>some (xs.take i.toNat ++ u::xs.drop i.toNat,[0≤i,i≤xs.length,xs.length≤100])
 |_,_,_,_=>none
theorem aar (k:IntKind) (xs:List Int) (a x:Value) (ys:List Int) (l:List Prop) (h:adS k xs a x=some (ys,l)) (hl:aI l):NV Try.prog 28 (xs.map (.int k)) a x (ys.map (.int k)):=by
 unfold adS at h
 split at h
 ·simp only[Option.some.injEq,Prod.mk.injEq] at h
  obtain⟨rfl,rfl⟩:=h
  obtain⟨h0,h1,h2,_⟩:=hl
  obtain⟨n,rfl⟩:=Int.eq_ofNat_of_zero_le h0
  exact aaX _ _ n (by omega) h2
 ·cases h
end InsS
end

section
namespace TableS
open Go Go.Dam Go.Proofs
set_option maxRecDepth 1000000
def agG (Q:Pt):D×List Prop:=(Q.o,[Gh Q])
def aie:List D→Option (D×List Prop):=Rl agG
theorem acd (args res l) (h:aie args=some (res,l)) (hl:aI l):CallsD Try.prog 27 args res:=oU (f:=agG) (fun Q h=>adV Q h.1) args res l h hl
noncomputable def XP5:aB:=aJ 27 (.call aie) (aJ 28 (.own InsS.adS) XP4)
theorem agK:bG Try.prog XP5:=ax acd (Vo InsS.aar U9)
end TableS
end

section
namespace TableS
open Go Go.Dam Go.Proofs
set_option maxRecDepth 1000000
noncomputable def xU (Q:Pt) (u:Int):Tr D:= .s (uJ Q) (.d (ai .neq (lG Q) 0) (fun e0=> .lf (D.bF [D.agg [u32 0,i64 0,i64 0,i64 0,i64 0,i64 0,i64 0,i64 0,i64 0,i64 0,i64 0,i64 0,i64 0,i64 0,i64 0,u64 0,i64 0,D.v (Value.slice none 0 0),D.v (Value.slice none 0 0),D.v (Value.slice none 0 0),D.v (Value.slice none 0 0),i64 0,D.v (Value.slice none 0 0),D.v (Value.slice none 0 0),D.v (Value.slice none 0 0),i64 0,i64 0,i64 0,D.v (Value.slice none 0 0),D.v (Value.slice none 0 0),D.v (Value.slice none 0 0),D.v (Value.slice none 0 0),i64 0,D.v (Value.slice none 0 0),D.v (Value.slice none 0 0),D.v (Value.slice none 0 0),i64 0,i64 0,D.v (Value.slice none 0 0),u64 0,u64 0,u64 0],i64 (lG Q)])) (fun e0=> .s (srt Q.rv∧Q.rv.length≤200) (.d (!decide (jg Q.rv u<Q.rv.length∧Q.rv.getD (jg Q.rv u) 0=u)) (fun e1=> .p (.c 2) (.d (ai .eql (↑(rowLen [Col.ints .u32 Q.rv])) 8) (fun e2=> .lf (D.bF [D.agg [u32 0,i64 0,i64 0,i64 0,i64 0,i64 0,i64 0,i64 0,i64 0,i64 0,i64 0,i64 0,i64 0,i64 0,i64 0,u64 0,i64 0,D.v (Value.slice none 0 0),D.v (Value.slice none 0 0),D.v (Value.slice none 0 0),D.v (Value.slice none 0 0),i64 0,D.v (Value.slice none 0 0),D.v (Value.slice none 0 0),D.v (Value.slice none 0 0),i64 0,i64 0,i64 0,D.v (Value.slice none 0 0),D.v (Value.slice none 0 0),D.v (Value.slice none 0 0),D.v (Value.slice none 0 0),i64 0,D.v (Value.slice none 0 0),D.v (Value.slice none 0 0),D.v (Value.slice none 0 0),i64 0,i64 0,D.v (Value.slice none 0 0),u64 0,u64 0,u64 0],i64 18])) (fun e2=> .p (.d true) (.s (Gh Q) (.k _ e1 (.s (Q.rv.length≤100) (.s ((jg Q.rv u:Int)≤(Q.rv.length:Int)) (.s ((0:Int)≤(jg Q.rv u:Int)) (.s (ah [.ints .u32 Q.rv]=Q.rv.length) (.s ((insL Q.rv u (jg Q.rv u)).length=ah [.ints .u32 (insL Q.rv u (jg Q.rv u))]) (.q (ah [.ints .i64 Q.E.no]) (.q (ah [.ints .i64 Q.E.ps]) (.q (ah [.ints .u32 Q.E.kx, .ints .i64 Q.E.px, .bools Q.E.ux]) (.q (ah [.bools Q.E.us]) (.q (ah [.ints .i64 Q.E.nx]) (.q (ah [.ints .i64 Q.E.x1, .ints .i64 Q.E.x2, .ints .i64 Q.E.x3, .ints .i64 Q.E.x4, .ints .i64 Q.E.x5, .ints .u64 Q.E.x6]) (.q (ah [.ints .u32 Q.E.ks]) (.q (ah [.ints .i64 Q.U.no]) (.q (ah [.ints .i64 Q.U.ps]) (.q (ah [.ints .u32 Q.U.kx, .ints .i64 Q.U.px, .bools Q.U.ux]) (.q (ah [.bools Q.U.us]) (.q (ah [.ints .i64 Q.U.nx]) (.q (ah [.ints .i64 Q.U.x1, .ints .i64 Q.U.x2, .ints .i64 Q.U.x3, .ints .i64 Q.U.x4, .ints .i64 Q.U.x5, .ints .u64 Q.U.x6]) (.q (ah [.ints .u32 Q.U.ks]) (.lf (D.bF [D.agg [u32 Q.te,i64 Q.b0,i64 Q.r0,i64 Q.p0,i64 Q.b1,i64 Q.r1,i64 Q.p1,i64 Q.b2,i64 Q.r2,i64 Q.p2,i64 Q.ob,i64 Q.orr,i64 Q.op,i64 Q.ov,i64 Q.oq,u64 Q.oa,i64 Q.U.n,D.oc [.ints .u32 Q.U.ks],D.oc [.ints .i64 Q.U.x1, .ints .i64 Q.U.x2, .ints .i64 Q.U.x3, .ints .i64 Q.U.x4, .ints .i64 Q.U.x5, .ints .u64 Q.U.x6],D.oc [.ints .i64 Q.U.nx],D.oc [.bools Q.U.us],i64 Q.U.fr,D.oc [.ints .u32 Q.U.kx, .ints .i64 Q.U.px, .bools Q.U.ux],D.oc [.ints .i64 Q.U.ps],D.oc [.ints .i64 Q.U.no],i64 Q.U.h,i64 Q.U.t,i64 Q.E.n,D.oc [.ints .u32 Q.E.ks],D.oc [.ints .i64 Q.E.x1, .ints .i64 Q.E.x2, .ints .i64 Q.E.x3, .ints .i64 Q.E.x4, .ints .i64 Q.E.x5, .ints .u64 Q.E.x6],D.oc [.ints .i64 Q.E.nx],D.oc [.bools Q.E.us],i64 Q.E.fr,D.oc [.ints .u32 Q.E.kx, .ints .i64 Q.E.px, .bools Q.E.ux],D.oc [.ints .i64 Q.E.ps],D.oc [.ints .i64 Q.E.no],i64 Q.E.h,i64 Q.E.t,D.oc [.ints .u32 (insL Q.rv u (jg Q.rv u))],u64 Q.ta,u64 Q.tl,u64 Q.tc],i64 0])))))))))))))))))))))))))) (fun e1=> .p (.c 3) (.p (.d false) (.s (Gh Q) (.k _ e1 (.q (ah [.ints .u32 Q.rv]) (.q (ah [.ints .i64 Q.E.no]) (.q (ah [.ints .i64 Q.E.ps]) (.q (ah [.ints .u32 Q.E.kx, .ints .i64 Q.E.px, .bools Q.E.ux]) (.q (ah [.bools Q.E.us]) (.q (ah [.ints .i64 Q.E.nx]) (.q (ah [.ints .i64 Q.E.x1, .ints .i64 Q.E.x2, .ints .i64 Q.E.x3, .ints .i64 Q.E.x4, .ints .i64 Q.E.x5, .ints .u64 Q.E.x6]) (.q (ah [.ints .u32 Q.E.ks]) (.q (ah [.ints .i64 Q.U.no]) (.q (ah [.ints .i64 Q.U.ps]) (.q (ah [.ints .u32 Q.U.kx, .ints .i64 Q.U.px, .bools Q.U.ux]) (.q (ah [.bools Q.U.us]) (.q (ah [.ints .i64 Q.U.nx]) (.q (ah [.ints .i64 Q.U.x1, .ints .i64 Q.U.x2, .ints .i64 Q.U.x3, .ints .i64 Q.U.x4, .ints .i64 Q.U.x5, .ints .u64 Q.U.x6]) (.q (ah [.ints .u32 Q.U.ks]) (.lf (D.bF [D.agg [u32 Q.te,i64 Q.b0,i64 Q.r0,i64 Q.p0,i64 Q.b1,i64 Q.r1,i64 Q.p1,i64 Q.b2,i64 Q.r2,i64 Q.p2,i64 Q.ob,i64 Q.orr,i64 Q.op,i64 Q.ov,i64 Q.oq,u64 Q.oa,i64 Q.U.n,D.oc [.ints .u32 Q.U.ks],D.oc [.ints .i64 Q.U.x1, .ints .i64 Q.U.x2, .ints .i64 Q.U.x3, .ints .i64 Q.U.x4, .ints .i64 Q.U.x5, .ints .u64 Q.U.x6],D.oc [.ints .i64 Q.U.nx],D.oc [.bools Q.U.us],i64 Q.U.fr,D.oc [.ints .u32 Q.U.kx, .ints .i64 Q.U.px, .bools Q.U.ux],D.oc [.ints .i64 Q.U.ps],D.oc [.ints .i64 Q.U.no],i64 Q.U.h,i64 Q.U.t,i64 Q.E.n,D.oc [.ints .u32 Q.E.ks],D.oc [.ints .i64 Q.E.x1, .ints .i64 Q.E.x2, .ints .i64 Q.E.x3, .ints .i64 Q.E.x4, .ints .i64 Q.E.x5, .ints .u64 Q.E.x6],D.oc [.ints .i64 Q.E.nx],D.oc [.bools Q.E.us],i64 Q.E.fr,D.oc [.ints .u32 Q.E.kx, .ints .i64 Q.E.px, .bools Q.E.ux],D.oc [.ints .i64 Q.E.ps],D.oc [.ints .i64 Q.E.no],i64 Q.E.h,i64 Q.E.t,D.oc [.ints .u32 Q.rv],u64 Q.ta,u64 Q.tl,u64 Q.tc],i64 0]))))))))))))))))))))))))
theorem ag0 (Q:Pt) (u:Int):Leaves (fun l=>cu Try.prog (XP5) 100000 l 8 [Q.d,u32 u]) (xU Q u) [] []:=by refine⟨fun _=>?_,fun _=>⟨fun _=>⟨fun _=>?_,fun _=>?_⟩,fun _=>?_⟩⟩<;>(show _=_;kernel_rfl)
theorem uH (Q:Pt) (u:Int) (res:D) (h0:At (fun r=>res=r) (xU Q u) [true] True) (h1:At (fun r=>res=r) (xU Q u) [false,true,true] True) (h2:At (fun r=>res=r) (xU Q u) [false,true,false] True) (h3:At (fun r=>res=r) (xU Q u) [false,false] True):CallsD Try.prog 8 [Q.d,u32 u] res:=au (agK) (ag0 Q u) ⟨fun e0=>h0 e0,fun e0=>⟨fun e1=>⟨fun e2=>h1 e0 e1 e2,fun e2=>h2 e0 e1 e2⟩,fun e1=>h3 e0 e1⟩⟩
theorem af4 {xs:List Int} {u:Int} (s:srt xs):decide (jg xs u<xs.length∧xs.getD (jg xs u) 0=u)=decide (u∈xs):=by
 by_cases m:u∈xs
 ·rw[decide_eq_true m,decide_eq_true_eq]
  obtain⟨j,hj,e⟩:=List.getElem_of_mem m
  have ej:xs.getD j 0=u:=by rw[List.getD_eq_getElem?_getD,List.getElem?_eq_getElem hj];exact e
  have h1:jg xs u≤j:=by
   rcases Nat.lt_or_ge j (jg xs u) with h | h
   ·have:=YE h;omega
   ·exact h
  have h2:=Zz s (Nat.le_refl _) (show jg xs u<xs.length by omega)
  rcases Nat.lt_or_ge (jg xs u) j with h | h
  ·have:=s _ _ h hj;omega
  ·have:jg xs u=j:=by omega
   rw[this];exact⟨hj,ej⟩
 ·rw[decide_eq_false m,decide_eq_false_iff_not]
  rintro⟨h1,h2⟩
  rw[List.getD_eq_getElem?_getD,List.getElem?_eq_getElem h1] at h2
  exact m (by rw[←h2];exact List.getElem_mem h1)
theorem agi (Q:Pt) (u:Int) (h:uJ Q):CallsD Try.prog 8 [Q.d,u32 u] (.bF [(Lm Q u).o,i64 (Va Q u)]):=by
 have tq:=pG h
 by_cases c:lG Q=0
 ·have k:=(D7 c).2.2.2.2.2.2.2.2
  have s:=Xe k.2
  have f0:(!decide (jg Q.rv u<Q.rv.length∧Q.rv.getD (jg Q.rv u) 0=u))=!decide (u∈Q.rv):=by rw[af4 s]
  by_cases m:u∈Q.rv
  ·unfold Lm Va
   rw[if_pos c,if_pos m,if_pos c,if_pos m]
   have f1:(!decide (jg Q.rv u<Q.rv.length∧Q.rv.getD (jg Q.rv u) 0=u))=false:=by rw[f0,decide_eq_true m];rfl
   refine uH Q u _ ?_ ?_ ?_ ?_<;>dsimp only[At,Tr.q,xU]
   ·intro g;rw[aP] at g;exact absurd c g
   ·intro _ g;rw[f1] at g;cases g
   ·intro _ g;rw[f1] at g;cases g
   ·intro _ _
    refine⟨?_,rfl⟩
    (repeat' (first | assumption | apply And.intro))<;>first | exact trivial | rfl | exact h.2.2.2
  ·have f1:(!decide (jg Q.rv u<Q.rv.length∧Q.rv.getD (jg Q.rv u) 0=u))=true:=by rw[f0,decide_eq_false m];rfl
   by_cases l:Q.rv.length=8
   ·unfold Lm Va
    rw[if_pos c,if_neg m,if_pos l,if_pos c,if_neg m,if_pos l]
    refine bH (bM.bF (.cons Gs (.refl _))) ?_
    refine uH Q u _ ?_ ?_ ?_ ?_<;>dsimp only[At,Tr.q,xU]
    ·intro g;rw[aP] at g;exact absurd c g
    ·intro _ _ _;exact⟨⟨⟨s,h.2.2.2⟩,h,trivial⟩,rfl⟩
    ·intro _ _ g;rw[je] at g;exact absurd (by simp[rowLen,Col.len,l]) g
    ·intro _ g;rw[f1] at g;cases g
   ·unfold Lm Va
    rw[if_pos c,if_neg m,if_neg l,if_pos c,if_neg m,if_neg l]
    have lb:=NK Q.rv u
    refine uH Q u _ ?_ ?_ ?_ ?_<;>dsimp only[At,Tr.q,xU]
    ·intro g;rw[aP] at g;exact absurd c g
    ·intro _ _ g;rw[iM] at g;simp[rowLen,Col.len] at g;omega
    ·intro _ _ _
     refine⟨?_,rfl⟩
     (repeat' (first | assumption | apply And.intro))<;>first | exact trivial | rfl | exact h.2.2.2 | omega | exact k.1
    ·intro _ g;rw[f1] at g;cases g
 ·unfold Lm Va
  rw[if_neg c,if_neg c]
  refine bH (bM.bF (.cons Gs (.refl _))) ?_
  refine uH Q u _ ?_ ?_ ?_ ?_<;>dsimp only[At,Tr.q,xU]
  ·intro _;exact⟨⟨h,trivial⟩,rfl⟩
  ·intro g;rw[aY] at g;exact absurd g c
  ·intro g;rw[aY] at g;exact absurd g c
  ·intro g;rw[aY] at g;exact absurd g c
end TableS
end

section
namespace TableS
open Go Go.Dam Go.Proofs
set_option maxRecDepth 1000000
noncomputable def rkf (Q:Pt) (u:Int):D×List Prop:=(.bF [(Lm Q u).o,i64 (Va Q u)],[uJ Q])
noncomputable def rkC:List D→Option (D×List Prop):=Ov rkf
theorem abq (args res l) (h:rkC args=some (res,l)) (hl:aI l):CallsD Try.prog 8 args res:=rO (f:=rkf) (fun Q u h=>agi Q u h.1) args res l h hl
theorem abL (args res l) (h:rkC args=some (res,l)) (hl:aI l):CallsD Try.prog 9 args res:=rO (f:=rkf) (fun Q u h=>afy Q u h.1) args res l h hl
theorem abt (args res l) (h:clC args=some (res,l)) (hl:aI l):CallsD Try.prog 10 args res:=oU (f:=clf) (fun Q h=>aeU Q h.1) args res l h hl
def YH (f:Pt→Int→Int→Int→Int→Int→Int→Int→Int→Int→Int→D×List Prop):List D→Option (D×List Prop)
 |[d, .agg [.v (.int .i64 b0), .v (.int .i64 r0), .v (.int .i64 p0), .v (.int .i64 b1), .v (.int .i64 r1), .v (.int .i64 p1), .v (.int .i64 b2), .v (.int .i64 r2), .v (.int .i64 p2)], .v (.int .u64 a)]=>match Pm d with
  |some Q=>some (f Q b0 r0 p0 b1 r1 p1 b2 r2 p2 a)
  |none=>none
 |_=>none
theorem MC {f:Pt→Int→Int→Int→Int→Int→Int→Int→Int→Int→Int→D×List Prop} {g:FuncId}
  (hf:∀ Q b0 r0 p0 b1 r1 p1 b2 r2 p2 a,aI (f Q b0 r0 p0 b1 r1 p1 b2 r2 p2 a).2→CallsD Try.prog g [Q.d,uI b0 r0 p0 b1 r1 p1 b2 r2 p2,u64 a] (f Q b0 r0 p0 b1 r1 p1 b2 r2 p2 a).1) (args res l) (h:YH f args=some (res,l)) (hl:aI l):CallsD Try.prog g args res:=by
 unfold YH at h
 split at h
 next d b0 r0 p0 b1 r1 p1 b2 r2 p2 a=>
  split at h
  next Q ht=>
   simp only[Option.some.injEq] at h
   have e:=DU ht
   subst e
   have:=hf Q b0 r0 p0 b1 r1 p1 b2 r2 p2 a (by rw[h];exact hl)
   rw[h] at this;exact this
  ·cases h
 ·cases h
noncomputable def lif (Q:Pt) (b0 r0 p0 b1 r1 p1 b2 r2 p2 a:Int):D×List Prop:=(.bF [(O0 Q b0 r0 p0 b1 r1 p1 b2 r2 p2 a).o,i64 (WJ Q b0 r0 p0 b1 r1 p1 b2 r2 p2)],[liS Q a])
noncomputable def liC:List D→Option (D×List Prop):=YH lif
theorem aaL (args res l) (h:liC args=some (res,l)) (hl:aI l):CallsD Try.prog 6 args res:=MC (f:=lif) (fun Q b0 r0 p0 b1 r1 p1 b2 r2 p2 a h=>adQ Q b0 r0 p0 b1 r1 p1 b2 r2 p2 a h.1) args res l h hl
theorem ab3 (args res l) (h:liC args=some (res,l)) (hl:aI l):CallsD Try.prog 7 args res:=MC (f:=lif) (fun Q b0 r0 p0 b1 r1 p1 b2 r2 p2 a h=>afo Q b0 r0 p0 b1 r1 p1 b2 r2 p2 a h.1) args res l h hl
noncomputable def XP6:aB:=aJ 6 (.call liC) (aJ 7 (.call liC) (aJ 8 (.call rkC) (aJ 9 (.call rkC) (aJ 10 (.call clC) (aJ 14 (.call acU) XP5)))))
theorem aiX:bG Try.prog XP6:=ax aaL (ax ab3 (ax abq (ax abL (ax abt (ax YV agK)))))
end TableS
end

section
namespace TableS
open Go Go.Dam Go.Proofs Go.RowKit Go.ChangeShapes Go.WideShapes
set_option maxRecDepth 1000000
def okW (T:Tb):Prop:=(∀ i,i<T.kx.length→vk (T.kx.getD i 0))∧(∀ i,i<T.ks.length→vk (T.ks.getD i 0))∧(∀ i,i<T.x1.length→jV (T.x4.getD i 0))∧
 T.x2.length=T.x1.length∧T.x3.length=T.x1.length∧T.x4.length=T.x1.length∧T.x5.length=T.x1.length∧T.x6.length=T.x1.length∧T.px.length=T.kx.length∧T.ux.length=T.kx.length∧∀ i,i<T.x1.length→0≤T.x6.getD i 0∧T.x6.getD i 0<18446744073709551616
theorem YD {T:Tb} (h:okW T) (g:T.great=false):uK T:=by
 obtain⟨h1,h2,h3,e2,e3,e4,e5,e6,e7,e8,_⟩:=h
 simp only[Tb.great,UE,Bool.or_eq_false_iff,decide_eq_false_iff_not] at g
 obtain⟨g1,g2,g3,⟨g4,g5⟩,g6,g7⟩:=g
 exact⟨⟨by omega,h1⟩,h2,h3,by omega,by omega,by omega,⟨by omega,e2,e3,e4,e5,e6⟩,⟨by omega,e7,e8⟩,by omega,by omega⟩
theorem Cj:¬ Live:=fun h=>by cases h
def YB:List IntKind:=[.i64, .i64, .i64, .i64, .i64, .u64]
def QA:List FK:=[.one (.int .i64), .row [.int .u32], .row (YB.map CK.int), .row [.int .i64], .row [.bool], .one (.int .i64), .row [.int .u32, .int .i64, .bool], .row [.int .i64], .row [.int .i64], .one (.int .i64), .one (.int .i64)]
theorem bY {w:World} {k:FK} {ks:List FK} {vs:List Value} (h:ig w (k::ks) vs):∃ v vs',vs=v::vs'∧k.ok w v∧ig w ks vs':=by
 cases vs with
 |nil=>cases h
 |cons v vs'=>exact⟨v,vs',rfl,h.1,h.2⟩
theorem wf_i64 {n:Int} (h:(Lit.int .i64 n).wf=true):jV n:=by
 unfold jV
 simp[Lit.wf,IntKind.has,IntKind.min,IntKind.max,IntKind.signed,IntKind.bits] at h;omega
def ZW (n:Int):Prop:=0≤n∧n<18446744073709551616
theorem wf_u64 {n:Int} (h:(Lit.int .u64 n).wf=true):ZW n:=by
 unfold ZW
 simp[Lit.wf,IntKind.has,IntKind.min,IntKind.max,IntKind.signed,IntKind.bits] at h;omega
theorem XM {w:World} {A:Nat→Prop} (ks:List IntKind) (f:Nat→Int):aC w A (.agg (mkL ks f)) (.agg (xR ks f).toArray):=YJ ks f
theorem BL {w:World} {k:IntKind} {v:Value} (h:(FK.one (.int k)).ok w v):∃ n,v= .int k n:=by
 obtain⟨n,e,_⟩:=h;exact⟨n,e⟩
theorem rZ {w:World} {k:IntKind} {v:Value} (h:(FK.row [.int k]).ok w v):∃ xs,aC w (fun k=>k<w.heap.size) (.rc [.ints k xs]) v∧∀ i,i<xs.length→(Lit.int k (xs.getD i 0)).wf=true:=by
 obtain⟨cols,n,hc,hr⟩:=h
 obtain⟨xs,cs,rfl,e,hw,hc⟩:=iC hc
 have:=pY hc;subst this;subst e
 exact⟨xs,hr.rep Cj rfl (fun c hc m f q=>by simp at hc;subst hc;cases q),hw⟩
theorem Ut {w:World} {v:Value} (h:(FK.row [.bool]).ok w v):∃ xs,aC w (fun k=>k<w.heap.size) (.rc [.bools xs]) v:=by
 obtain⟨cols,n,hc,hr⟩:=h
 obtain⟨xs,cs,rfl,e,hc⟩:=AX hc
 have:=pY hc;subst this;subst e
 exact⟨xs,hr.rep Cj rfl (fun c hc m f q=>by simp at hc;subst hc;cases q)⟩
theorem Vp {w:World} {v:Value} (h:(FK.row [.int .u32, .int .i64, .bool]).ok w v):∃ kx px ux,aC w (fun k=>k<w.heap.size) (cc kx px ux) v∧px.length=kx.length∧ux.length=kx.length∧∀ i,i<kx.length→vk (kx.getD i 0):=by
 obtain⟨cols,n,hc,hr⟩:=h
 obtain⟨kx,cs,rfl,e,hw,hc⟩:=iC hc
 obtain⟨px,cs,rfl,e2,_,hc⟩:=iC hc
 obtain⟨ux,cs,rfl,e3,hc⟩:=AX hc
 have:=pY hc;subst this;subst e
 exact⟨kx,px,ux,hr.rep Cj rfl (fun c hc m f q=>by simp at hc;rcases hc with rfl | rfl | rfl<;>cases q),e2,e3,fun i hi=>wf_u32 (hw i hi)⟩
theorem NJ {w:World} {v:Value} (h:(FK.row (YB.map CK.int)).ok w v):∃ x1 x2 x3 x4 x5 x6,aC w (fun k=>k<w.heap.size) (kr x1 x2 x3 x4 x5 x6) v∧
  (x2.length=x1.length∧x3.length=x1.length∧x4.length=x1.length∧x5.length=x1.length∧x6.length=x1.length)∧(∀ i,i<x1.length→jV (x4.getD i 0))∧∀ i,i<x1.length→ZW (x6.getD i 0):=by
 obtain⟨cols,n,hc,hr⟩:=h
 obtain⟨x1,cs,rfl,e,_,hc⟩:=iC hc
 obtain⟨x2,cs,rfl,e2,_,hc⟩:=iC hc
 obtain⟨x3,cs,rfl,e3,_,hc⟩:=iC hc
 obtain⟨x4,cs,rfl,e4,hw,hc⟩:=iC hc
 obtain⟨x5,cs,rfl,e5,_,hc⟩:=iC hc
 obtain⟨x6,cs,rfl,e6,h6,hc⟩:=iC hc
 have:=pY hc;subst this;subst e
 exact⟨x1,x2,x3,x4,x5,x6,hr.rep Cj rfl (fun c hc m f q=>by simp at hc;rcases hc with rfl | rfl | rfl | rfl | rfl | rfl<;>cases q),⟨e2,e3,e4,e5,e6⟩,fun i hi=>wf_i64 (hw i hi),fun i hi=>wf_u64 (h6 i hi)⟩
theorem LJ {w:World} {vs:List Value} (h:ig w QA vs):∃ T:Tb,okW T∧aC w (fun k=>k<w.heap.size) T.d (.agg vs.toArray):=by
 obtain⟨v0,vs,rfl,h0,h⟩:=bY h
 obtain⟨v1,vs,rfl,h1,h⟩:=bY h
 obtain⟨v2,vs,rfl,h2,h⟩:=bY h
 obtain⟨v3,vs,rfl,h3,h⟩:=bY h
 obtain⟨v4,vs,rfl,h4,h⟩:=bY h
 obtain⟨v5,vs,rfl,h5,h⟩:=bY h
 obtain⟨v6,vs,rfl,h6,h⟩:=bY h
 obtain⟨v7,vs,rfl,h7,h⟩:=bY h
 obtain⟨v8,vs,rfl,h8,h⟩:=bY h
 obtain⟨v9,vs,rfl,h9,h⟩:=bY h
 obtain⟨v10,vs,rfl,h10,h⟩:=bY h
 have:vs=[]:=by cases vs with | nil=>rfl | cons=>cases h
 subst this
 obtain⟨n,rfl⟩:=BL h0
 obtain⟨ks,r1,k1⟩:=rZ h1
 obtain⟨x1,x2,x3,x4,x5,x6,r2,⟨e2,e3,e4,e5,e6⟩,k2,k3⟩:=NJ h2
 obtain⟨nx,r3,_⟩:=rZ h3
 obtain⟨us,r4⟩:=Ut h4
 obtain⟨fr,rfl⟩:=BL h5
 obtain⟨kx,px,ux,r6,e7,e8,k6⟩:=Vp h6
 obtain⟨ps,r7,_⟩:=rZ h7
 obtain⟨no,r8,_⟩:=rZ h8
 obtain⟨hh,rfl⟩:=BL h9
 obtain⟨t,rfl⟩:=BL h10
 refine⟨⟨n,ks,x1,x2,x3,x4,x5,x6,nx,us,fr,kx,px,ux,ps,no,hh,t⟩,⟨k6,fun i hi=>wf_u32 (k1 i hi),k2,e2,e3,e4,e5,e6,e7,e8,k3⟩,?_⟩
 simp only[aC]
 refine⟨_,rfl,?_⟩
 simp only[dD]
 exact⟨_,_,rfl,rfl,_,_,rfl,r1,_,_,rfl,r2,_,_,rfl,r3,_,_,rfl,r4,_,_,rfl,rfl,_,_,rfl,r6,_,_,rfl,r7,_,_,rfl,r8,_,_,rfl,rfl,_,_,rfl,rfl,rfl⟩
end TableS
end
