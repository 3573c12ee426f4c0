/- What the functions compute, and the law. No condition. -/
import Derived.Test.YtfoelbdkgaliaaaPaTG
import Derived.Test.YtfoelbdkgaliaaaDamYA
set_option linter.unusedSectionVars false
set_option linter.unusedVariables false
set_option linter.unusedSimpArgs false
section
namespace TableS
open Go Go.Dam Go.Proofs
set_option maxRecDepth 1000000
theorem wC:∀ (n:Nat) (l:List Int),l.Nodup→(∀ x∈l,0≤x∧x<(n:Int))→l.length≤n
 |0,l,_,h=>by
  cases l with
  |nil=>exact Nat.le_refl _
  |cons a l=>have:=h a (by simp);omega
 |n+1,l,hn,h=>by
  have:=wC n (l.erase (n:Int)) (hn.erase _) fun x hx=>by
   rw[hn.mem_erase_iff] at hx
   have:=h x hx.2
   omega
  by_cases hm:(n:Int)∈l
  ·rw[List.length_erase_of_mem hm] at this;omega
  ·rw[List.erase_of_not_mem hm] at this;omega
def chain (nx:List Int):Nat→Int→List Int→Option (List Int)
 |0,_,_=>none
 |d+1,i,l=>if i=-1 then some l else if i<0∨(nx.length:Int)≤i∨i∈l then none else chain nx d (nx.getD i.toNat 0) (l ++ [i])
def Lu (n:Nat) (l:List Int):Prop:=l.Nodup∧∀ x∈l,0≤x∧x<(n:Int)
theorem wP {n:Nat} {l:List Int} {i:Int} (h:Lu n l) (h0:0≤i) (h1:i<(n:Int)) (h2:i∉l):Lu n (l ++ [i]):=by
 refine⟨?_,?_⟩
 ·rw[List.nodup_append]
  refine⟨h.1,by simp,?_⟩
  intro a ha b hb e
  simp at hb;subst hb;subst e;exact h2 ha
 ·intro x hx
  rcases List.mem_append.1 hx with hx | hx
  ·exact h.2 x hx
  ·simp at hx;subst hx;exact⟨h0,h1⟩
theorem uw (n:Nat):Lu n []:=⟨by simp,by simp⟩
theorem yj {nx:List Int}:∀ {d:Nat} {i:Int} {l l':List Int},Lu nx.length l→chain nx d i l=some l'→Lu nx.length l'
 |0,_,_,_,_,h=>by cases h
 |d+1,i,l,l',ho,h=>by
  simp only[chain] at h
  split at h
  ·simp only[Option.some.injEq] at h;subst h;exact ho
  ·split at h
   ·cases h
   next hc=>
    exact yj (wP ho (by omega) (by omega) fun hm=>hc (.inr (.inr hm))) h
noncomputable def Ac (o:Bool) (k:Nat) (i:Int) (nx:List Int) (us:List Bool) (f:Int) (l:List Int):Tr (Ex×Cs):= .d (ai .neq i (-1)) (fun e0=> .d (ai .lss i 0) (fun e1=> .p (.c 7) (.lf (Ex.ret,(Bo (false) (k) (i) (nx) (us) (f) (l))))) (fun e1=> .p (.c 3) (.d (ai .geq i ↑(nx.length)) (fun e2=> .p (.c 2) (.lf (Ex.ret,(Bo (false) (k) (i) (nx) (us) (f) (l))))) (fun e2=> .p (.c 1) (.s (l.length≤200) (.s (k=l.length) (.d (inB l i) (fun e3=> .lf (Ex.ret,(Bo (false) (k) (i) (nx) (us) (f) (l)))) (fun e3=> .s (l.length=l.length) (.s (k=l.length) (.s ((k+1)*8≤17592186044416) (.s (decide (i< ↑(nx.length))=true) (.s (decide (0≤i)=true) (.lf (Ex.normal,(Bo (o) (k+1) (nx.getD i.toNat 0) (nx) (us) (f) (l ++ [i])))))))))))))))) (fun e0=> .lf (Ex.exit 0,(Bo (o) (k) (i) (nx) (us) (f) (l))))
theorem aif (o:Bool) (k:Nat) (i:Int) (nx:List Int) (us:List Bool) (f:Int) (l:List Int):Leaves (bT Try.prog (X2) 100000 (af Try.prog 92 0) [[1,2,3,4,5]] [(32,32),(9001,9001)] (Bo o k i nx us f l)) (Ac o k i nx us f l) [] []:=by refine⟨fun _=>⟨fun _=>?_,fun _=>⟨fun _=>?_,fun _=>⟨fun _=>?_,fun _=>?_⟩⟩⟩,fun _=>?_⟩<;>(show _=_;kernel_rfl)
theorem DF (o:Bool) (k:Nat) (i:Int) (nx:List Int) (us:List Bool) (f:Int) (l:List Int) (σ:St) (e:Ex) (h0:At (RG Try.prog (af Try.prog 92 0) e σ) (Ac o k i nx us f l) [true,true] True) (h1:At (RG Try.prog (af Try.prog 92 0) e σ) (Ac o k i nx us f l) [true,false,true] True) (h2:At (RG Try.prog (af Try.prog 92 0) e σ) (Ac o k i nx us f l) [true,false,false,true] True) (h3:At (RG Try.prog (af Try.prog 92 0) e σ) (Ac o k i nx us f l) [true,false,false,false] True) (h4:At (RG Try.prog (af Try.prog 92 0) e σ) (Ac o k i nx us f l) [false] True):Runs Try.prog (CallsD Try.prog) (.rounds (af Try.prog 92 0)) (Bo o k i nx us f l).abs e σ:=aO (hX2) (aif o k i nx us f l) ⟨fun e0=>⟨fun e1=>h0 e0 e1,fun e1=>⟨fun e2=>h1 e0 e1 e2,fun e2=>⟨fun e3=>h2 e0 e1 e2 e3,fun e3=>h3 e0 e1 e2 e3⟩⟩⟩,fun e0=>h4 e0⟩
noncomputable def acG (o:Bool) (k:Nat) (i:Int) (nx:List Int) (us:List Bool) (f:Int) (l:List Int):Tr D:= .p (.k [Cast.nil 4 9001 1 [.ints .i64 []]]) (.p (.l [[1,2,3,4,5]] [(32,32),(9001,9001)] (Bo false 0 f nx us f []) (Ex.exit 0) (Bo o k i nx us f l)) (.s (Runs Try.prog (CallsD Try.prog) (.code (.loop (af Try.prog 92 0))) (Bo false 0 f nx us f []).abs (Ex.exit 0) (Bo o k i nx us f l).abs) (.k ((Bo false 0 f nx us f []=Bo false 0 f nx us f [])) rfl (.s (k=l.length) (.lf (D.bF [D.oc [.ints .i64 l],bo true]))))))
theorem ai3 (o:Bool) (k:Nat) (i:Int) (nx:List Int) (us:List Bool) (f:Int) (l:List Int):Leaves (fun l=>cu Try.prog (X2) 100000 l 92 [D.agg [ri nx,rb us,i64 f]]) (acG o k i nx us f l) [] []:=by show _=_;kernel_rfl
theorem Vj (o:Bool) (k:Nat) (i:Int) (nx:List Int) (us:List Bool) (f:Int) (l:List Int) (res:D) (h0:At (fun r=>res=r) (acG o k i nx us f l) [] True):CallsD Try.prog 92 [D.agg [ri nx,rb us,i64 f]] res:=au (hX2) (ai3 o k i nx us f l) h0
noncomputable def acV (o:Bool) (k:Nat) (i:Int) (nx:List Int) (us:List Bool) (f:Int) (l:List Int):Tr D:= .p (.k [Cast.nil 4 9001 1 [.ints .i64 []]]) (.p (.l [[1,2,3,4,5]] [(32,32),(9001,9001)] (Bo false 0 f nx us f []) Ex.ret (Bo o k i nx us f l)) (.s (Runs Try.prog (CallsD Try.prog) (.code (.loop (af Try.prog 92 0))) (Bo false 0 f nx us f []).abs (Ex.ret) (Bo o k i nx us f l).abs) (.k ((Bo false 0 f nx us f []=Bo false 0 f nx us f [])) rfl (.lf (D.bF [D.v (Value.slice none 0 0),bo o])))))
theorem ag5 (o:Bool) (k:Nat) (i:Int) (nx:List Int) (us:List Bool) (f:Int) (l:List Int):Leaves (fun l=>cu Try.prog (X2) 100000 l 92 [D.agg [ri nx,rb us,i64 f]]) (acV o k i nx us f l) [] []:=by show _=_;kernel_rfl
theorem Us (o:Bool) (k:Nat) (i:Int) (nx:List Int) (us:List Bool) (f:Int) (l:List Int) (res:D) (h0:At (fun r=>res=r) (acV o k i nx us f l) [] True):CallsD Try.prog 92 [D.agg [ri nx,rb us,i64 f]] res:=au (hX2) (ag5 o k i nx us f l) h0
noncomputable def A8 (o:Bool) (k:Nat) (i:Int) (ps:List Int) (nx:List Int) (h:Int) (t:Int) (l:List Int):Tr (Ex×Cs):= .d (ai .neq i (-1)) (fun e0=> .d (ai .lss i 0) (fun e1=> .p (.c 7) (.lf (Ex.ret,(BD (false) (k) (i) (ps) (nx) (h) (t) (l))))) (fun e1=> .p (.c 3) (.d (ai .geq i ↑(nx.length)) (fun e2=> .p (.c 2) (.lf (Ex.ret,(BD (false) (k) (i) (ps) (nx) (h) (t) (l))))) (fun e2=> .p (.c 1) (.s (l.length≤200) (.s (k=l.length) (.d (inB l i) (fun e3=> .lf (Ex.ret,(BD (false) (k) (i) (ps) (nx) (h) (t) (l)))) (fun e3=> .s (l.length=l.length) (.s (k=l.length) (.s ((k+1)*8≤17592186044416) (.s (decide (i< ↑(nx.length))=true) (.s (decide (0≤i)=true) (.lf (Ex.normal,(BD (o) (k+1) (nx.getD i.toNat 0) (ps) (nx) (h) (t) (l ++ [i])))))))))))))))) (fun e0=> .lf (Ex.exit 0,(BD (o) (k) (i) (ps) (nx) (h) (t) (l))))
theorem ahb (o:Bool) (k:Nat) (i:Int) (ps nx:List Int) (h t:Int) (l:List Int):Leaves (bT Try.prog (X2) 100000 (af Try.prog 75 0) [[1,2,3,4,5]] [(32,32),(9001,9001)] (BD o k i ps nx h t l)) (A8 o k i ps nx h t l) [] []:=by refine⟨fun _=>⟨fun _=>?_,fun _=>⟨fun _=>?_,fun _=>⟨fun _=>?_,fun _=>?_⟩⟩⟩,fun _=>?_⟩<;>(show _=_;kernel_rfl)
theorem FM (o:Bool) (k:Nat) (i:Int) (ps:List Int) (nx:List Int) (h:Int) (t:Int) (l:List Int) (σ:St) (e:Ex) (h0:At (RG Try.prog (af Try.prog 75 0) e σ) (A8 o k i ps nx h t l) [true,true] True) (h1:At (RG Try.prog (af Try.prog 75 0) e σ) (A8 o k i ps nx h t l) [true,false,true] True) (h2:At (RG Try.prog (af Try.prog 75 0) e σ) (A8 o k i ps nx h t l) [true,false,false,true] True) (h3:At (RG Try.prog (af Try.prog 75 0) e σ) (A8 o k i ps nx h t l) [true,false,false,false] True) (h4:At (RG Try.prog (af Try.prog 75 0) e σ) (A8 o k i ps nx h t l) [false] True):Runs Try.prog (CallsD Try.prog) (.rounds (af Try.prog 75 0)) (BD o k i ps nx h t l).abs e σ:=aO (hX2) (ahb o k i ps nx h t l) ⟨fun e0=>⟨fun e1=>h0 e0 e1,fun e1=>⟨fun e2=>h1 e0 e1 e2,fun e2=>⟨fun e3=>h2 e0 e1 e2 e3,fun e3=>h3 e0 e1 e2 e3⟩⟩⟩,fun e0=>h4 e0⟩
noncomputable def acN (o:Bool) (k:Nat) (i:Int) (ps:List Int) (nx:List Int) (h:Int) (t:Int) (l:List Int):Tr D:= .p (.k [Cast.nil 4 9001 1 [.ints .i64 []]]) (.p (.l [[1,2,3,4,5]] [(32,32),(9001,9001)] (BD false 0 h ps nx h t []) (Ex.exit 0) (BD o k i ps nx h t l)) (.s (Runs Try.prog (CallsD Try.prog) (.code (.loop (af Try.prog 75 0))) (BD false 0 h ps nx h t []).abs (Ex.exit 0) (BD o k i ps nx h t l).abs) (.k ((BD false 0 h ps nx h t []=BD false 0 h ps nx h t [])) rfl (.s (k=l.length) (.lf (D.bF [D.oc [.ints .i64 l],bo true]))))))
theorem aiJ (o:Bool) (k:Nat) (i:Int) (ps nx:List Int) (h t:Int) (l:List Int):Leaves (fun l=>cu Try.prog (X2) 100000 l 75 [D.agg [ri ps,ri nx,i64 h,i64 t]]) (acN o k i ps nx h t l) [] []:=by show _=_;kernel_rfl
theorem Uy (o:Bool) (k:Nat) (i:Int) (ps nx:List Int) (h t:Int) (l:List Int) (res:D) (h0:At (fun r=>res=r) (acN o k i ps nx h t l) [] True):CallsD Try.prog 75 [D.agg [ri ps,ri nx,i64 h,i64 t]] res:=au (hX2) (aiJ o k i ps nx h t l) h0
noncomputable def ac4 (o:Bool) (k:Nat) (i:Int) (ps:List Int) (nx:List Int) (h:Int) (t:Int) (l:List Int):Tr D:= .p (.k [Cast.nil 4 9001 1 [.ints .i64 []]]) (.p (.l [[1,2,3,4,5]] [(32,32),(9001,9001)] (BD false 0 h ps nx h t []) Ex.ret (BD o k i ps nx h t l)) (.s (Runs Try.prog (CallsD Try.prog) (.code (.loop (af Try.prog 75 0))) (BD false 0 h ps nx h t []).abs (Ex.ret) (BD o k i ps nx h t l).abs) (.k ((BD false 0 h ps nx h t []=BD false 0 h ps nx h t [])) rfl (.lf (D.bF [D.v (Value.slice none 0 0),bo o])))))
theorem ah6 (o:Bool) (k:Nat) (i:Int) (ps nx:List Int) (h t:Int) (l:List Int):Leaves (fun l=>cu Try.prog (X2) 100000 l 75 [D.agg [ri ps,ri nx,i64 h,i64 t]]) (ac4 o k i ps nx h t l) [] []:=by show _=_;kernel_rfl
theorem UI (o:Bool) (k:Nat) (i:Int) (ps nx:List Int) (h t:Int) (l:List Int) (res:D) (h0:At (fun r=>res=r) (ac4 o k i ps nx h t l) [] True):CallsD Try.prog 75 [D.agg [ri ps,ri nx,i64 h,i64 t]] res:=au (hX2) (ah6 o k i ps nx h t l) h0
theorem WC (nx:List Int) (us:List Bool) (f:Int) (hn:nx.length≤200):∀ (d:Nat) (i:Int) (l:List Int),Lu nx.length l→l.length+d=nx.length+1→
  match chain nx d i l with
  |some l'=>Runs Try.prog (CallsD Try.prog) (.rounds (af Try.prog 92 0)) (Bo false l.length i nx us f l).abs (.exit 0) (Bo false l'.length (-1) nx us f l').abs
  |none=>∃ (k:Nat) (i':Int) (l':List Int),Runs Try.prog (CallsD Try.prog) (.rounds (af Try.prog 92 0)) (Bo false l.length i nx us f l).abs .ret (Bo false k i' nx us f l').abs
 |0,i,l,ho,hd=>by
  have:=wC _ _ ho.1 ho.2
  omega
 |d+1,i,l,ho,hd=>by
  have hl:=wC _ _ ho.1 ho.2
  simp only[chain]
  by_cases c1:i=-1
  ·subst c1
   simp only[if_true]
   refine DF false l.length (-1) nx us f l _ _ ?_ ?_ ?_ ?_ ?_<;>dsimp only[At,Tr.q,RG,Ac]
   ·intro g;rw[aP] at g;exact absurd rfl g
   ·intro g;rw[aP] at g;exact absurd rfl g
   ·intro g;rw[aP] at g;exact absurd rfl g
   ·intro g;rw[aP] at g;exact absurd rfl g
   ·intro _;exact⟨trivial,rfl,rfl⟩
  ·rw[if_neg c1]
   by_cases c2:i<0∨(nx.length:Int)≤i∨i∈l
   ·rw[if_pos c2]
    refine⟨l.length,i,l,DF false l.length i nx us f l _ _ ?_ ?_ ?_ ?_ ?_⟩
    ·intro _ _;exact⟨trivial,rfl,rfl⟩
    ·intro _ _ _;exact⟨trivial,rfl,rfl⟩
    ·intro _ _ _ _;exact⟨⟨rfl,by omega,trivial⟩,rfl,rfl⟩
    ·intro _ g1 g2 g3
     rw[aX] at g1;rw[iP] at g2;simp only[inB,decide_eq_false_iff_not] at g3
     rcases c2 with c | c | c
     ·omega
     ·omega
     ·exact absurd c g3
    ·intro g;rw[aY] at g;exact absurd g c1
   ·rw[if_neg c2]
    have hi0:0≤i:=by omega
    have hi1:i<(nx.length:Int):=by omega
    have hi2:i∉l:=fun h=>c2 (.inr (.inr h))
    have ih:=WC nx us f hn d (nx.getD i.toNat 0) (l ++ [i]) (wP ho hi0 hi1 hi2) (by simp;omega)
    have step:∀ (σ:St) (e:Ex),Runs Try.prog (CallsD Try.prog) (.rounds (af Try.prog 92 0)) (Bo false (l ++ [i]).length (nx.getD i.toNat 0) nx us f (l ++ [i])).abs e σ→Runs Try.prog (CallsD Try.prog) (.rounds (af Try.prog 92 0)) (Bo false l.length i nx us f l).abs e σ:=by
     intro σ e hr
     refine DF false l.length i nx us f l σ e ?_ ?_ ?_ ?_ ?_<;>dsimp only[At,Tr.q,RG,Ac]
     ·intro _ g;rw[aQ] at g;omega
     ·intro _ _ g;rw[iQ] at g;omega
     ·intro _ _ _ g;simp only[inB,decide_eq_true_eq] at g;exact absurd g hi2
     ·intro _ _ _ _
      refine⟨⟨by simpa using hi0,by simpa using hi1,by omega,rfl,rfl,rfl,by omega,trivial⟩,?_⟩
      simpa using hr
     ·intro g;rw[aY] at g;exact absurd g c1
    cases hch:chain nx d (nx.getD i.toNat 0) (l ++ [i]) with
    |some l'=>rw[hch] at ih;exact step _ _ ih
    |none=>
     rw[hch] at ih
     obtain⟨k,i',l',h⟩:=ih
     exact⟨k,i',l',step _ _ h⟩
def frD (nx:List Int) (f:Int):D:=match chain nx (nx.length+1) f [] with
 |some l=> .bF [oi l,bo true]
 |none=> .bF [.v (.slice none 0 0),bo false]
theorem ag7 (nx:List Int) (us:List Bool) (f:Int) (h:nx.length≤200):CallsD Try.prog 92 [.agg [ri nx,rb us,i64 f]] (frD nx f):=by
 have hr:=WC nx us f h (nx.length+1) f [] (uw _) (by simp)
 unfold frD
 cases hc:chain nx (nx.length+1) f [] with
 |some l=>
  rw[hc] at hr
  exact Vj false l.length (-1) nx us f l _ ⟨⟨rfl,ak hr,trivial⟩,rfl⟩
 |none=>
  rw[hc] at hr
  obtain⟨k,i,l,hr⟩:=hr
  exact Us false k i nx us f l _ ⟨⟨ak hr,trivial⟩,rfl⟩
theorem Ym (ps nx:List Int) (h t:Int) (hn:nx.length≤200):∀ (d:Nat) (i:Int) (l:List Int),Lu nx.length l→l.length+d=nx.length+1→
  match chain nx d i l with
  |some l'=>Runs Try.prog (CallsD Try.prog) (.rounds (af Try.prog 75 0)) (BD false l.length i ps nx h t l).abs (.exit 0) (BD false l'.length (-1) ps nx h t l').abs
  |none=>∃ (k:Nat) (i':Int) (l':List Int),Runs Try.prog (CallsD Try.prog) (.rounds (af Try.prog 75 0)) (BD false l.length i ps nx h t l).abs .ret (BD false k i' ps nx h t l').abs
 |0,i,l,ho,hd=>by
  have:=wC _ _ ho.1 ho.2
  omega
 |d+1,i,l,ho,hd=>by
  have hl:=wC _ _ ho.1 ho.2
  simp only[chain]
  by_cases c1:i=-1
  ·subst c1
   simp only[if_true]
   refine FM false l.length (-1) ps nx h t l _ _ ?_ ?_ ?_ ?_ ?_<;>dsimp only[At,Tr.q,RG,A8]
   ·intro g;rw[aP] at g;exact absurd rfl g
   ·intro g;rw[aP] at g;exact absurd rfl g
   ·intro g;rw[aP] at g;exact absurd rfl g
   ·intro g;rw[aP] at g;exact absurd rfl g
   ·intro _;exact⟨trivial,rfl,rfl⟩
  ·rw[if_neg c1]
   by_cases c2:i<0∨(nx.length:Int)≤i∨i∈l
   ·rw[if_pos c2]
    refine⟨l.length,i,l,FM false l.length i ps nx h t l _ _ ?_ ?_ ?_ ?_ ?_⟩
    ·intro _ _;exact⟨trivial,rfl,rfl⟩
    ·intro _ _ _;exact⟨trivial,rfl,rfl⟩
    ·intro _ _ _ _;exact⟨⟨rfl,by omega,trivial⟩,rfl,rfl⟩
    ·intro _ g1 g2 g3
     rw[aX] at g1;rw[iP] at g2;simp only[inB,decide_eq_false_iff_not] at g3
     rcases c2 with c | c | c
     ·omega
     ·omega
     ·exact absurd c g3
    ·intro g;rw[aY] at g;exact absurd g c1
   ·rw[if_neg c2]
    have hi0:0≤i:=by omega
    have hi1:i<(nx.length:Int):=by omega
    have hi2:i∉l:=fun hh=>c2 (.inr (.inr hh))
    have ih:=Ym ps nx h t hn d (nx.getD i.toNat 0) (l ++ [i]) (wP ho hi0 hi1 hi2) (by simp;omega)
    have step:∀ (σ:St) (e:Ex),Runs Try.prog (CallsD Try.prog) (.rounds (af Try.prog 75 0)) (BD false (l ++ [i]).length (nx.getD i.toNat 0) ps nx h t (l ++ [i])).abs e σ→Runs Try.prog (CallsD Try.prog) (.rounds (af Try.prog 75 0)) (BD false l.length i ps nx h t l).abs e σ:=by
     intro σ e hr
     refine FM false l.length i ps nx h t l σ e ?_ ?_ ?_ ?_ ?_<;>dsimp only[At,Tr.q,RG,A8]
     ·intro _ g;rw[aQ] at g;omega
     ·intro _ _ g;rw[iQ] at g;omega
     ·intro _ _ _ g;simp only[inB,decide_eq_true_eq] at g;exact absurd g hi2
     ·intro _ _ _ _
      refine⟨⟨by simpa using hi0,by simpa using hi1,by omega,rfl,rfl,rfl,by omega,trivial⟩,?_⟩
      simpa using hr
     ·intro g;rw[aY] at g;exact absurd g c1
    cases hch:chain nx d (nx.getD i.toNat 0) (l ++ [i]) with
    |some l'=>rw[hch] at ih;exact step _ _ ih
    |none=>
     rw[hch] at ih
     obtain⟨k,i',l',hh⟩:=ih
     exact⟨k,i',l',step _ _ hh⟩
theorem agH (ps nx:List Int) (h t:Int) (hn:nx.length≤200):CallsD Try.prog 75 [.agg [ri ps,ri nx,i64 h,i64 t]] (frD nx h):=by
 have hr:=Ym ps nx h t hn (nx.length+1) h [] (uw _) (by simp)
 unfold frD
 cases hc:chain nx (nx.length+1) h [] with
 |some l=>
  rw[hc] at hr
  exact Uy false l.length (-1) ps nx h t l _ ⟨⟨rfl,ak hr,trivial⟩,rfl⟩
 |none=>
  rw[hc] at hr
  obtain⟨k,i,l,hr⟩:=hr
  exact UI false k i ps nx h t l _ ⟨⟨ak hr,trivial⟩,rfl⟩
end TableS
end

section
namespace TableS
open Go Go.Dam Go.Proofs
set_option maxRecDepth 1000000
noncomputable def acv (k:Int):Tr D:= .q (true) (.lf (i64 (IntKind.i64.wrap (aj .shr .u32 (aj .mul .u32 k 2654435769) 28))))
theorem agX (k:Int):Leaves (fun l=>cu Try.prog (X2) 100000 l 98 [u32 k]) (acv k) [] []:=by show _=_;kernel_rfl
theorem U5 (k:Int) (res:D) (h0:At (fun r=>res=r) (acv k) [] True):CallsD Try.prog 98 [u32 k] res:=au (hX2) (agX k) h0
noncomputable def aco (k:Int):Tr D:= .q (false) (.q (false) (.lf (i64 (IntKind.i64.wrap (aj .quo .u64 (aj .rem .u64 (aj .mul .u64 (IntKind.u64.wrap k) 2654435769) 4294967296) 268435456)))))
theorem ahI (k:Int):Leaves (fun l=>cu Try.prog (X2) 100000 l 94 [u32 k]) (aco k) [] []:=by show _=_;kernel_rfl
theorem Vg (k:Int) (res:D) (h0:At (fun r=>res=r) (aco k) [] True):CallsD Try.prog 94 [u32 k] res:=au (hX2) (ahI k) h0
noncomputable def acQ (xs:List Int) (n:Int):Tr D:= .s (xs.length≤200) (.lf (D.v (Value.bool (ai .geq (ixN xs n) 0))))
theorem ahO (xs:List Int) (n:Int):Leaves (fun l=>cu Try.prog (X2) 100000 l 60 [ri xs,i64 n]) (acQ xs n) [] []:=by show _=_;kernel_rfl
theorem VH (xs:List Int) (n:Int) (res:D) (h0:At (fun r=>res=r) (acQ xs n) [] True):CallsD Try.prog 60 [ri xs,i64 n] res:=au (hX2) (ahO xs n) h0
def dn (k:Int):Int:=k*2654435769%4294967296 / 268435456
def vk (k:Int):Prop:=0≤k∧k<4294967296
theorem mg {k:Int} (h:vk k):0≤dn k∧dn k<16:=by unfold dn;omega
theorem ahZ {a:Int} (h0:0≤a) (h1:a<4294967296):aj .shr .u32 a 28=a / 268435456:=by
 show a.fdiv (2 ^ min (28:Int).toNat 32)=_
 rw[Int.fdiv_eq_ediv_of_nonneg _ (by decide)];rfl
theorem TA {k:Int} (h:vk k):IntKind.i64.wrap (aj .shr .u32 (aj .mul .u32 k 2654435769) 28)=dn k:=by
 obtain⟨h0,h1⟩:=h
 rw[kP,wrap_u32,ahZ (by omega) (by omega),aT (by omega) (by omega)];rfl
theorem af6 (k:Int) (h:vk k):CallsD Try.prog 98 [u32 k] (i64 (dn k)):=U5 k _ ⟨trivial,by rw[TA h]⟩
theorem adF (k:Int) (h:vk k):CallsD Try.prog 94 [u32 k] (i64 (dn k)):=by
 refine Vg k _ ⟨trivial,?_⟩
 obtain⟨h0,h1⟩:=h
 rw[dP (by omega) (by omega),kP,dP (by omega) (by omega),CG _ (by omega),Kq _ (by omega),dP (by omega) (by omega),aT (by omega) (by omega)];rfl
theorem aiq {i:Int} (h0:0≤i) (h1:i≤16):aj .and .i64 i 15=i%16:=by
 have:i.toNat≤16:=by omega
 obtain⟨n,rfl⟩:=Int.eq_ofNat_of_zero_le h0
 have:n≤16:=by omega
 clear h0 h1
 rcases n with _|_|_|_|_|_|_|_|_|_|_|_|_|_|_|_|_|n<;>first | rfl | (exfalso;omega)
theorem aij (xs:List Int) (n:Int) (h:xs.length≤200):CallsD Try.prog 60 [ri xs,i64 n] (bo (inB xs n)):=by
 refine VH xs n _ ⟨⟨h,trivial⟩,?_⟩
 congr 2
 unfold inB
 rw[I5]
 have e:ixN xs n=gJ (fun i=>xs.getD i 0 ==n) xs.length 0:=by
  unfold ixN;congr 1;funext i;exact Bool.beq_comm ..
 rw[e,Bool.eq_iff_iff]
 simp only[iQ,Bool.not_eq_true',decide_eq_false_iff_not]
 omega
def dN (nx:List Int) (f:Int):List Int:=(chain nx (nx.length+1) f []).getD []
def GY (nx:List Int) (f:Int):Bool:=(chain nx (nx.length+1) f []).isSome
theorem Jf (nx:List Int) (f:Int):kV (frD nx f) (.bF [oi (dN nx f),bo (GY nx f)]):=by
 unfold frD dN GY
 cases chain nx (nx.length+1) f [] with
 |some l=>exact .refl _
 |none=>exact bM.bF (.cons (.nil rfl) (.refl _))
theorem aei (nx:List Int) (us:List Bool) (f:Int) (h:nx.length≤200):CallsD Try.prog 92 [.agg [ri nx,rb us,i64 f]] (.bF [oi (dN nx f),bo (GY nx f)]):=bH (Jf nx f) (ag7 nx us f h)
theorem aff (ps nx:List Int) (h t:Int) (hn:nx.length≤200):CallsD Try.prog 75 [.agg [ri ps,ri nx,i64 h,i64 t]] (.bF [oi (dN nx h),bo (GY nx h)]):=bH (Jf nx h) (agH ps nx h t hn)
def hmC:List D→Option (D×List Prop)
 |[.v (.int .u32 k)]=>some (i64 (dn k),[vk k])
 |_=>none
theorem aa1 (args res l) (h:hmC args=some (res,l)) (hl:aI l):CallsD Try.prog 98 args res:=by
 unfold hmC at h;split at h
 ·simp only[Option.some.injEq,Prod.mk.injEq] at h
  obtain⟨rfl,rfl⟩:=h;obtain⟨h0,_⟩:=hl
  exact af6 _ h0
 ·cases h
theorem aa9 (args res l) (h:hmC args=some (res,l)) (hl:aI l):CallsD Try.prog 94 args res:=by
 unfold hmC at h;split at h
 ·simp only[Option.some.injEq,Prod.mk.injEq] at h
  obtain⟨rfl,rfl⟩:=h;obtain⟨h0,_⟩:=hl
  exact adF _ h0
 ·cases h
def frC:List D→Option (D×List Prop)
 |[.agg [.rc [.ints .i64 nx], .rc [.bools us], .v (.int .i64 f)]]=>some ((.bF [oi (dN nx f),bo (GY nx f)]),[nx.length≤200])
 |_=>none
theorem ae5 (args res l) (h:frC args=some (res,l)) (hl:aI l):CallsD Try.prog 92 args res:=by
 unfold frC at h;split at h
 ·simp only[Option.some.injEq,Prod.mk.injEq] at h
  obtain⟨rfl,rfl⟩:=h;obtain⟨h0,_⟩:=hl
  exact aei _ _ _ h0
 ·cases h
def alC:List D→Option (D×List Prop)
 |[.agg [.rc [.ints .i64 ps], .rc [.ints .i64 nx], .v (.int .i64 h), .v (.int .i64 t)]]=>some ((.bF [oi (dN nx h),bo (GY nx h)]),[nx.length≤200])
 |_=>none
theorem aeB (args res l) (h:alC args=some (res,l)) (hl:aI l):CallsD Try.prog 75 args res:=by
 unfold alC at h;split at h
 ·simp only[Option.some.injEq,Prod.mk.injEq] at h
  obtain⟨rfl,rfl⟩:=h;obtain⟨h0,_⟩:=hl
  exact aff _ _ _ _ h0
 ·cases h
theorem afp (args res l) (h:inC args=some (res,l)) (hl:aI l):CallsD Try.prog 60 args res:=by
 unfold inC at h;split at h
 ·simp only[Option.some.injEq,Prod.mk.injEq] at h
  obtain⟨rfl,rfl⟩:=h;obtain⟨h0,_⟩:=hl
  exact aij _ _ h0
 ·cases h
def X3:aB:=aJ 98 (.call hmC) (aJ 94 (.call hmC) (aJ 60 (.call inC) (aJ 92 (.call frC) (aJ 75 (.call alC) X2))))
theorem hX3:bG Try.prog X3:=ax aa1 (ax aa9 (ax afp (ax ae5 (ax aeB hX2))))
end TableS
end

section
namespace TableS
open Go Go.Dam Go.Proofs
set_option maxRecDepth 1000000
theorem afd (n:Int) (xs:List Int) (i:Int) (j k:Nat) (ps nx:List Int):fG Try.prog (X2) 100000 (af Try.prog 95 0) [.d true] [[0,1,4,5,6]] [(128,128),(160,160),(544,9001),(672,9002)] (Pn n xs i j k ps nx)=some (Ex.normal,(Pn (n) (xs) (aj .add .i64 i 1) (j+1) (k+1) (ps ++ [-1]) (nx ++ [-1])),[(k+1)*8≤17592186044416,k=nx.length,nx.length=nx.length,(j+1)*8≤17592186044416,j=ps.length,ps.length=ps.length,ai .lss i n=true]):=by kernel_rfl
theorem afu (n:Int) (xs:List Int) (i:Int) (j k:Nat) (ps nx:List Int):fG Try.prog (X2) 100000 (af Try.prog 95 0) [.d false] [[0,1,4,5,6]] [(128,128),(160,160),(9001,9001),(9002,9002)] (Pn n xs i j k ps nx)=some (Ex.exit 0,(Pn (n) (xs) (i) (j) (k) (ps) (nx)),[ai .lss i n=false]):=by kernel_rfl
theorem NW (n:Int) (xs:List Int) (i:Int) (j:Nat) (k:Nat) (ps:List Int) (nx:List Int) (σ:St) (e:Ex)
 (h0:((ai .lss i n)=true)→(((k+1)*8≤17592186044416)∧(k=nx.length)∧(nx.length=nx.length)∧((j+1)*8≤17592186044416)∧(j=ps.length)∧(ps.length=ps.length)∧True)∧Runs Try.prog (CallsD Try.prog) (.rounds (af Try.prog 95 0)) (Pn (n) (xs) (aj .add .i64 i 1) (j+1) (k+1) (ps ++ [-1]) (nx ++ [-1])).abs e σ)
 (h1:((ai .lss i n)=false)→(True)∧(e=Ex.exit 0∧σ=(Pn (n) (xs) (i) (j) (k) (ps) (nx)).abs)):Runs Try.prog (CallsD Try.prog) (.rounds (af Try.prog 95 0)) (Pn n xs i j k ps nx).abs e σ:=by
 cases e0:(ai .lss i n) with
 |true=>
  obtain⟨⟨k0,k1,k2,k3,k4,k5,_⟩,kr⟩:=h0 e0
  exact iI (hX2) (afd n xs i j k ps nx) ⟨k0,k1,k2,k3,k4,k5,e0,trivial⟩ kr
 |false=>
  obtain⟨_,kr⟩:=h1 e0
  exact iW (hX2) (afu n xs i j k ps nx) ⟨e0,trivial⟩ (by simp) kr
noncomputable def yU (xs:List Int) (i:Int) (j:Nat) (k:Nat) (h:Int) (t:Int) (ps:List Int) (nx:List Int):Tr (Ex×Cs):= .d (ai .lss i ↑(xs.length)) (fun e0=> .d (ai .eql i 0) (fun e1=> .s (decide (i< ↑(xs.length))=true) (.s (decide (0≤i)=true) (.s (decide (i< ↑(xs.length))=true) (.s (decide (0≤i)=true) (.lf (Ex.normal,(Bv (xs) (aj .add .i64 i 1) (j) (k) (xs.getD i.toNat 0) (xs.getD i.toNat 0) (ps) (nx)))))))) (fun e1=> .s (decide (i< ↑(xs.length))=true) (.s (decide (0≤i)=true) (.s (decide (aj .sub .i64 i 1< ↑(xs.length))=true) (.s (decide (0≤aj .sub .i64 i 1)=true) (.s (decide (xs.getD i.toNat 0< ↑j)=true) (.s (decide (0≤xs.getD i.toNat 0)=true) (.s (ps.length=ps.length) (.s ((xs.getD i.toNat 0).toNat<ps.length) (.s (decide (aj .sub .i64 i 1< ↑(xs.length))=true) (.s (decide (0≤aj .sub .i64 i 1)=true) (.s (decide (i< ↑(xs.length))=true) (.s (decide (0≤i)=true) (.s (decide (xs.getD (aj .sub .i64 i 1).toNat 0< ↑k)=true) (.s (decide (0≤xs.getD (aj .sub .i64 i 1).toNat 0)=true) (.s (nx.length=nx.length) (.s ((xs.getD (aj .sub .i64 i 1).toNat 0).toNat<nx.length) (.s (decide (i< ↑(xs.length))=true) (.s (decide (0≤i)=true) (.lf (Ex.normal,(Bv (xs) (aj .add .i64 i 1) (j) (k) (h) (xs.getD i.toNat 0) (ps.set (xs.getD i.toNat 0).toNat (xs.getD (aj .sub .i64 i 1).toNat 0)) (nx.set (xs.getD (aj .sub .i64 i 1).toNat 0).toNat (xs.getD i.toNat 0)))))))))))))))))))))))) (fun e0=> .lf (Ex.exit 2,(Bv (xs) (i) (j) (k) (h) (t) (ps) (nx))))
theorem agl (xs:List Int) (i:Int) (j k:Nat) (h t:Int) (ps nx:List Int):Leaves (bT Try.prog (X2) 100000 (af Try.prog 95 1) [[1,4,5,7]] [(128,128),(160,160),(9001,9001),(9002,9002)] (Bv xs i j k h t ps nx)) (yU xs i j k h t ps nx) [] []:=by refine⟨fun _=>⟨fun _=>?_,fun _=>?_⟩,fun _=>?_⟩<;>(show _=_;kernel_rfl)
theorem G7 (xs:List Int) (i:Int) (j:Nat) (k:Nat) (h:Int) (t:Int) (ps:List Int) (nx:List Int) (σ:St) (e:Ex) (h0:At (RG Try.prog (af Try.prog 95 1) e σ) (yU xs i j k h t ps nx) [true,true] True) (h1:At (RG Try.prog (af Try.prog 95 1) e σ) (yU xs i j k h t ps nx) [true,false] True) (h2:At (RG Try.prog (af Try.prog 95 1) e σ) (yU xs i j k h t ps nx) [false] True):Runs Try.prog (CallsD Try.prog) (.rounds (af Try.prog 95 1)) (Bv xs i j k h t ps nx).abs e σ:=aO (hX2) (agl xs i j k h t ps nx) ⟨fun e0=>⟨fun e1=>h0 e0 e1,fun e1=>h1 e0 e1⟩,fun e0=>h2 e0⟩
noncomputable def acs (n:Int) (xs:List Int) (i:Int) (i2:Int) (j:Nat) (k:Nat) (h:Int) (t:Int) (ps:List Int) (nx:List Int) (ps2:List Int) (nx2:List Int):Tr D:= .p (.k [Cast.cnil 160 0 9001 1 [.ints .i64 []],Cast.cnil 160 1 9002 1 [.ints .i64 []]]) (.p (.l [[0,1,4,5,6]] [(128,128),(160,160),(9001,9001),(9002,9002)] (Pn n xs 0 0 0 [] []) (Ex.exit 0) (Pn n xs i j k ps nx)) (.p (.l [[1,4,5,7]] [(128,128),(160,160),(9001,9001),(9002,9002)] (Bv xs 0 j k (-1) (-1) ps nx) (Ex.exit 2) (Bv xs i2 j k h t ps2 nx2)) (.s (Runs Try.prog (CallsD Try.prog) (.code (.loop (af Try.prog 95 0))) (Pn n xs 0 0 0 [] []).abs (Ex.exit 0) (Pn n xs i j k ps nx).abs) (.k ((Pn n xs 0 0 0 [] []=Pn n xs 0 0 0 [] [])) rfl (.s (Runs Try.prog (CallsD Try.prog) (.code (.loop (af Try.prog 95 1))) (Bv xs 0 j k (-1) (-1) ps nx).abs (Ex.exit 2) (Bv xs i2 j k h t ps2 nx2).abs) (.k ((Bv xs 0 j k (-1) (-1) ps nx=Bv xs 0 j k (-1) (-1) ps nx)) rfl (.s (k=nx2.length) (.s (j=ps2.length) (.lf (D.agg [D.oc [.ints .i64 ps2],D.oc [.ints .i64 nx2],i64 h,i64 t]))))))))))
theorem ag2 (n:Int) (xs:List Int) (i i2:Int) (j k:Nat) (h t:Int) (ps nx ps2 nx2:List Int):Leaves (fun l=>cu Try.prog (X2) 100000 l 95 [i64 n,ri xs]) (acs n xs i i2 j k h t ps nx ps2 nx2) [] []:=by show _=_;kernel_rfl
theorem VW (n:Int) (xs:List Int) (i i2:Int) (j k:Nat) (h t:Int) (ps nx ps2 nx2:List Int) (res:D) (h0:At (fun r=>res=r) (acs n xs i i2 j k h t ps nx ps2 nx2) [] True):CallsD Try.prog 95 [i64 n,ri xs] res:=au (hX2) (ag2 n xs i i2 j k h t ps nx ps2 nx2) h0
def CV (n:Nat) (xs:List Int):Nat→List Int
 |0=>List.replicate n (-1)
 |i+1=>if i=0 then CV n xs i else(CV n xs i).set (xs.getD i 0).toNat (xs.getD (i - 1) 0)
def Bj (n:Nat) (xs:List Int):Nat→List Int
 |0=>List.replicate n (-1)
 |i+1=>if i=0 then Bj n xs i else(Bj n xs i).set (xs.getD (i - 1) 0).toNat (xs.getD i 0)
def Wn (xs:List Int) (i:Nat):Int:=if i=0 then -1 else xs.getD 0 0
def Ll (xs:List Int) (i:Nat):Int:=if i=0 then -1 else xs.getD (i - 1) 0
theorem xM (n:Nat) (xs:List Int):∀ i,(CV n xs i).length=n
 |0=>by simp[CV]
 |i+1=>by simp only[CV];split<;>simp[xM n xs i]
theorem xX (n:Nat) (xs:List Int):∀ i,(Bj n xs i).length=n
 |0=>by simp[Bj]
 |i+1=>by simp only[Bj];split<;>simp[xX n xs i]
def mdS (n:Int) (xs:List Int):Prop:=0≤n∧n≤200∧xs.length≤200∧∀ x∈xs,0≤x∧x<n
theorem ahs (n:Int) (xs:List Int) (h:mdS n xs):CallsD Try.prog 95 [i64 n,ri xs] (.agg [oi (CV n.toNat xs xs.length),oi (Bj n.toNat xs xs.length),i64 (Wn xs xs.length),i64 (Ll xs xs.length)]):=by
 obtain⟨h0,h1,h2,h3⟩:=h
 have hx:∀ i,i<xs.length→0≤xs.getD i 0∧xs.getD i 0<n:=fun i hi=>by
  rw[List.getD_eq_getElem?_getD,List.getElem?_eq_getElem hi]
  exact h3 _ (List.getElem_mem hi)
 refine VW n xs n xs.length n.toNat n.toNat (Wn xs xs.length) (Ll xs xs.length) (CV n.toNat xs 0) (Bj n.toNat xs 0) (CV n.toNat xs xs.length) (Bj n.toNat xs xs.length) _ ⟨⟨(xM _ _ _).symm,(xX _ _ _).symm,ak ?_,ak ?_,trivial⟩,rfl⟩
 ·refine dS (fun i=>Bv xs (i:Int) n.toNat n.toNat (Wn xs i) (Ll xs i) (CV n.toNat xs i) (Bj n.toNat xs i)) xs.length (fun _=>True) (fun i hi _ σ e hr=>?_) ?_ xs.length 0 (by omega) (fun _ _ _=>trivial)
  ·obtain⟨y0,y1⟩:=hx i hi
   refine G7 xs i n.toNat n.toNat _ _ _ _ σ e ?_ ?_ ?_<;>dsimp only[At,Tr.q,RG,yU]
   ·intro _ g
    rw[iM] at g
    obtain rfl:i=0:=by omega
    rw[dF hi h2,Int.toNat_natCast]
    exact⟨⟨(ay hi).1,(ay hi).2,(ay hi).1,(ay hi).2,trivial⟩,hr⟩
   ·intro _ g
    rw[je] at g
    have hi0:i≠0:=by omega
    have hp:aj .sub .i64 (i:Int) 1=((i - 1:Nat):Int):=by
     rw[eY,aT (by omega) (by omega)];omega
    obtain⟨z0,z1⟩:=hx (i - 1) (by omega)
    rw[dF hi h2,hp,Int.toNat_natCast,Int.toNat_natCast]
    have e1:CV n.toNat xs (i+1)=(CV n.toNat xs i).set (xs.getD i 0).toNat (xs.getD (i - 1) 0):=by simp only[CV,if_neg hi0]
    have e2:Bj n.toNat xs (i+1)=(Bj n.toNat xs i).set (xs.getD (i - 1) 0).toNat (xs.getD i 0):=by simp only[Bj,if_neg hi0]
    have e3:Wn xs (i+1)=Wn xs i:=by simp only[Wn,if_neg hi0];rfl
    have e4:Ll xs (i+1)=xs.getD i 0:=by simp only[Ll];rfl
    rw[e1,e2,e3,e4] at hr
    have n1:=ay hi
    have n2:decide (0≤((i - 1:Nat):Int))=true∧decide (((i - 1:Nat):Int)<(xs.length:Int))=true:=ay (by omega)
    have l1:=xM n.toNat xs i
    have l2:=xX n.toNat xs i
    refine⟨⟨n1.1,n1.2,by omega,rfl,by simpa using z0,?_,n1.1,n1.2,n2.1,n2.2,by omega,rfl,by simpa using y0,?_,n2.1,n2.2,n1.1,n1.2,trivial⟩,hr⟩
    ·rw[decide_eq_true_eq];omega
    ·rw[decide_eq_true_eq];omega
   ·intro g;rw[aX] at g;omega
  ·refine G7 xs xs.length n.toNat n.toNat _ _ _ _ _ _ ?_ ?_ ?_<;>dsimp only[At,Tr.q,RG,yU]
   ·intro g;rw[aQ] at g;omega
   ·intro g;rw[aQ] at g;omega
   ·intro _;exact⟨trivial,rfl,rfl⟩
 ·have hn:((n.toNat:Nat):Int)=n:=by omega
  have key:=dS (P:=Try.prog) (F:=CallsD Try.prog) (b:=af Try.prog 95 0) (fun i=>Pn n xs (i:Int) i i (List.replicate i (-1)) (List.replicate i (-1))) n.toNat (fun _=>True) (fun i hi _ σ e hr=>?_) (σ:=(Pn n xs n n.toNat n.toNat (CV n.toNat xs 0) (Bj n.toNat xs 0)).abs) (e:= .exit 0) ?_ n.toNat 0 (by omega) (fun _ _ _=>trivial)
  ·exact key
  ·refine NW n xs i i i _ _ σ e ?_ ?_
   ·intro _
    rw[dF hi (by omega)]
    refine⟨⟨by omega,by simp,rfl,by omega,by simp,rfl,trivial⟩,?_⟩
    rw[←List.replicate_succ'];exact hr
   ·intro g;rw[aX] at g;omega
  ·rw[hn]
   refine NW n xs n n.toNat n.toNat _ _ _ _ ?_ ?_
   ·intro g;rw[aQ] at g;omega
   ·intro _;exact⟨trivial,rfl,rfl⟩
def mdC:List D→Option (D×List Prop)
 |[.v (.int .i64 n), .rc [.ints .i64 xs]]=>some ((.agg [oi (CV n.toNat xs xs.length),oi (Bj n.toNat xs xs.length),i64 (Wn xs xs.length),i64 (Ll xs xs.length)]),[mdS n xs])
 |_=>none
theorem adM (args res l) (h:mdC args=some (res,l)) (hl:aI l):CallsD Try.prog 95 args res:=by
 unfold mdC at h;split at h
 ·simp only[Option.some.injEq,Prod.mk.injEq] at h
  obtain⟨rfl,rfl⟩:=h;obtain⟨h0,_⟩:=hl
  exact ahs _ _ h0
 ·cases h
end TableS
end

section
namespace TableS
open Go Go.Dam Go.Proofs
set_option maxRecDepth 1000000
noncomputable def Fv (xs:List Int) (ys:List Int) (zs:List Bool) (k:Int) (i:Int) (n:Int):Tr (Ex×Cs):= .s (decide (i< ↑(xs.length))=true) (.s (decide (0≤i)=true) (.d (zs.getD i.toNat false) (fun e0=> .p (.c 5) (.s (decide (i< ↑(xs.length))=true) (.s (decide (0≤i)=true) (.d (ai .neq (xs.getD i.toNat 0) k) (fun e1=> .lf (Ex.normal,(VK (xs) (ys) (zs) (k) (aj .and .i64 (aj .add .i64 i 1) 15) (aj .add .i64 n 1)))) (fun e1=> .lf (Ex.exit 0,(VK (xs) (ys) (zs) (k) (i) (n)))))))) (fun e0=> .p (.c 6) (.lf (Ex.exit 0,(VK (xs) (ys) (zs) (k) (i) (n)))))))
theorem ahP (xs ys:List Int) (zs:List Bool) (k i n:Int):Leaves (bT Try.prog (X1) 100000 (af Try.prog 86 0) [[0,1,4,5]] [] (VK xs ys zs k i n)) (Fv xs ys zs k i n) [] []:=by refine⟨fun _=>⟨fun _=>?_,fun _=>?_⟩,fun _=>?_⟩<;>(show _=_;kernel_rfl)
theorem Dj (xs:List Int) (ys:List Int) (zs:List Bool) (k:Int) (i:Int) (n:Int) (σ:St) (e:Ex) (h0:At (RG Try.prog (af Try.prog 86 0) e σ) (Fv xs ys zs k i n) [true,true] True) (h1:At (RG Try.prog (af Try.prog 86 0) e σ) (Fv xs ys zs k i n) [true,false] True) (h2:At (RG Try.prog (af Try.prog 86 0) e σ) (Fv xs ys zs k i n) [false] True):Runs Try.prog (CallsD Try.prog) (.rounds (af Try.prog 86 0)) (VK xs ys zs k i n).abs e σ:=aO (hX1) (ahP xs ys zs k i n) ⟨fun e0=>⟨fun e1=>h0 e0 e1,fun e1=>h1 e0 e1⟩,fun e0=>h2 e0⟩
noncomputable def FN (k:Int):=aj .shr .u32 (aj .mul .u32 k 2654435769) 28
noncomputable def adf (xs:List Int) (ys:List Int) (zs:List Bool) (k:Int) (i:Int) (n:Int):Tr D:= .p (.l [[0,1,4,5]] [] (VK xs ys zs k (IntKind.i64.wrap (FN k)) 0) (Ex.exit 0) (VK xs ys zs k i n)) (.q (true) (.s (Runs Try.prog (CallsD Try.prog) (.code (.loop (af Try.prog 86 0))) (VK xs ys zs k (IntKind.i64.wrap (FN k)) 0).abs (Ex.exit 0) (VK xs ys zs k i n).abs) (.k ((VK xs ys zs k (IntKind.i64.wrap (FN k)) 0=VK xs ys zs k (IntKind.i64.wrap (FN k)) 0)) rfl (.lf (D.bF [i64 i,i64 (aj .add .i64 n 1)])))))
theorem ahj (xs ys:List Int) (zs:List Bool) (k i n:Int):Leaves (fun l=>cu Try.prog (X1) 100000 l 86 [cc xs ys zs,u32 k]) (adf xs ys zs k i n) [] []:=by show _=_;kernel_rfl
theorem UL (xs ys:List Int) (zs:List Bool) (k i n:Int) (res:D) (h0:At (fun r=>res=r) (adf xs ys zs k i n) [] True):CallsD Try.prog 86 [cc xs ys zs,u32 k] res:=au (hX1) (ahj xs ys zs k i n) h0
def RH (xs:List Int) (zs:List Bool) (k:Int):Nat→Nat→Nat→Nat×Nat
 |0,i,n=>(i,n)
 |d+1,i,n=>if zs.getD i false=true∧xs.getD i 0≠k then RH xs zs k d ((i+1)%16) (n+1) else(i,n)
theorem QJ {xs:List Int} {zs:List Bool} {k:Int}:∀ (d i n:Nat),i<16→(RH xs zs k d i n).1<16∧(RH xs zs k d i n).2≤n+d
 |0,i,n,h=>⟨h,Nat.le_refl _⟩
 |d+1,i,n,h=>by
  simp only[RH]
  split
  ·have:=QJ (xs:=xs) (zs:=zs) (k:=k) d ((i+1)%16) (n+1) (by omega)
   exact⟨this.1,by omega⟩
  ·exact⟨h,by show n≤_;omega⟩
theorem afr (xs ys:List Int) (zs:List Bool) (k:Int) (hx:xs.length=16):∀ (D d i n:Nat),d≤D→i<16→n+D≤100→zs.getD ((i+d)%16) false=false→
  Runs Try.prog (CallsD Try.prog) (.rounds (af Try.prog 86 0)) (VK xs ys zs k i n).abs (.exit 0) (VK xs ys zs k (RH xs zs k D i n).1 (RH xs zs k D i n).2).abs:=by
 intro D
 induction D with
 |zero=>
  intro d i n hd hi hn hz
  obtain rfl:d=0:=by omega
  rw[Nat.add_zero,Nat.mod_eq_of_lt hi] at hz
  have b:=ay (n:=xs.length) (i:=i) (by omega)
  refine Dj xs ys zs k i n _ _ ?_ ?_ ?_<;>dsimp only[At,Tr.q,RG,Fv]
  ·intro g;rw[Int.toNat_natCast,hz] at g;cases g
  ·intro g;rw[Int.toNat_natCast,hz] at g;cases g
  ·intro _;exact⟨⟨b.1,b.2,trivial⟩,rfl,rfl⟩
 |succ D ih=>
  intro d i n hd hi hn hz
  have b:=ay (n:=xs.length) (i:=i) (by omega)
  by_cases c:zs.getD i false=true∧xs.getD i 0≠k
  ·have hd0:d≠0:=fun e=>by
    subst e
    rw[Nat.add_zero,Nat.mod_eq_of_lt hi,c.1] at hz;cases hz
   have r:=ih (d - 1) ((i+1)%16) (n+1) (by omega) (by omega) (by omega) (by rw[←hz];congr 1;omega)
   have e1:aj .and .i64 (aj .add .i64 (i:Int) 1) 15=(((i+1)%16:Nat):Int):=by
    rw[dX,aT (by omega) (by omega),aiq (by omega) (by omega)];omega
   have e2:aj .add .i64 (n:Int) 1=((n+1:Nat):Int):=by
    rw[dX,aT (by omega) (by omega)];omega
   simp only[RH,if_pos c]
   refine Dj xs ys zs k i n _ _ ?_ ?_ ?_<;>dsimp only[At,Tr.q,RG,Fv]
   ·intro _ _;rw[e1,e2];exact⟨⟨b.1,b.2,b.1,b.2,trivial⟩,r⟩
   ·intro _ g;rw[Int.toNat_natCast,aY] at g;exact absurd g c.2
   ·intro g;rw[Int.toNat_natCast,c.1] at g;cases g
  ·simp only[RH,if_neg c]
   refine Dj xs ys zs k i n _ _ ?_ ?_ ?_<;>dsimp only[At,Tr.q,RG,Fv]
   ·intro g1 g2;rw[Int.toNat_natCast] at g1;rw[Int.toNat_natCast,aP] at g2;exact absurd ⟨g1,g2⟩ c
   ·intro _ _;exact⟨⟨b.1,b.2,b.1,b.2,trivial⟩,rfl,rfl⟩
   ·intro _;exact⟨⟨b.1,b.2,trivial⟩,rfl,rfl⟩
def YG (xs:List Int) (zs:List Bool) (k:Int):Prop:=xs.length=16∧vk k∧∃ j,j<16∧zs.getD j false=false
def oP (xs:List Int) (zs:List Bool) (k:Int):Nat:=(RH xs zs k 16 (dn k).toNat 0).1
def lkC (xs:List Int) (zs:List Bool) (k:Int):Nat:=(RH xs zs k 16 (dn k).toNat 0).2+1
theorem agY (xs ys:List Int) (zs:List Bool) (k:Int) (h:YG xs zs k):CallsD Try.prog 86 [cc xs ys zs,u32 k] (.bF [i64 (oP xs zs k),i64 (lkC xs zs k)]):=by
 obtain⟨hx,hk,j,hj,hz⟩:=h
 have hh:=mg hk
 have r:=afr xs ys zs k hx 16 ((j+16 - (dn k).toNat)%16) (dn k).toNat 0 (by omega) (by omega) (by omega) (by rw[←hz];congr 1;omega)
 have hw:=QJ (xs:=xs) (zs:=zs) (k:=k) 16 (dn k).toNat 0 (by omega)
 refine UL xs ys zs k (oP xs zs k) (RH xs zs k 16 (dn k).toNat 0).2 _ ⟨⟨?_,trivial⟩,?_⟩
 ·unfold FN;rw[TA hk]
  have e:dn k=(((dn k).toNat:Nat):Int):=by omega
  have r':=ak r
  rw[←e] at r'
  exact r'
 ·rw[dX,aT (by omega) (by omega)]
  simp only[lkC,Int.natCast_add];rfl
def adG:List D→Option (D×List Prop)
 |[.rc [.ints .u32 xs, .ints .i64 ys, .bools zs], .v (.int .u32 k)]=>some ((.bF [i64 (oP xs zs k),i64 (lkC xs zs k)]),[YG xs zs k])
 |_=>none
theorem aa5 (args res l) (h:adG args=some (res,l)) (hl:aI l):CallsD Try.prog 86 args res:=by
 unfold adG at h;split at h
 ·simp only[Option.some.injEq,Prod.mk.injEq] at h
  obtain⟨rfl,rfl⟩:=h;obtain⟨h0,_⟩:=hl
  exact agY _ _ _ _ h0
 ·cases h
def X4:aB:=aJ 86 (.call adG) (aJ 95 (.call mdC) X3)
theorem Q7:bG Try.prog X4:=ax aa5 (ax adM hX3)
end TableS
end

section
namespace TableS
open Go Go.Dam Go.Proofs
set_option maxRecDepth 1000000
noncomputable def A7 (r:Int) (n:Int) (i:Int) (k:Nat) (xs:List Int) (us:List Bool) (f:Int) (ys:List Bool):Tr (Ex×Cs):= .d (ai .neq i (-1)) (fun e0=> .d (ai .lss i 0) (fun e1=> .p (.c 6) (.lf (Ex.ret,(vH (8) (n) (i) (k) (xs) (us) (f) (ys))))) (fun e1=> .p (.c 1) (.d (ai .geq i n) (fun e2=> .p (.c 3) (.lf (Ex.ret,(vH (8) (n) (i) (k) (xs) (us) (f) (ys))))) (fun e2=> .p (.c 2) (.s (decide (i< ↑k)=true) (.s (decide (0≤i)=true) (.s (i.toNat<ys.length) (.d (ys.getD i.toNat false) (fun e3=> .lf (Ex.ret,(vH (8) (n) (i) (k) (xs) (us) (f) (ys)))) (fun e3=> .s (decide (i< ↑k)=true) (.s (decide (0≤i)=true) (.s (ys.length=ys.length) (.s (i.toNat<ys.length) (.s (decide (i< ↑(xs.length))=true) (.s (decide (0≤i)=true) (.lf (Ex.normal,(vH (r) (n) (xs.getD i.toNat 0) (k) (xs) (us) (f) (ys.set i.toNat true)))))))))))))))))) (fun e0=> .lf (Ex.exit 0,(vH (r) (n) (i) (k) (xs) (us) (f) (ys))))
theorem ahD (r n i:Int) (k:Nat) (xs:List Int) (us:List Bool) (f:Int) (ys:List Bool):Leaves (bT Try.prog (X1) 100000 (af Try.prog 57 0) [[1,2,3,4,5]] [(32,32),(832,832)] (vH r n i k xs us f ys)) (A7 r n i k xs us f ys) [] []:=by refine⟨fun _=>⟨fun _=>?_,fun _=>⟨fun _=>?_,fun _=>⟨fun _=>?_,fun _=>?_⟩⟩⟩,fun _=>?_⟩<;>(show _=_;kernel_rfl)
theorem Dw (r:Int) (n:Int) (i:Int) (k:Nat) (xs:List Int) (us:List Bool) (f:Int) (ys:List Bool) (σ:St) (e:Ex) (h0:At (RG Try.prog (af Try.prog 57 0) e σ) (A7 r n i k xs us f ys) [true,true] True) (h1:At (RG Try.prog (af Try.prog 57 0) e σ) (A7 r n i k xs us f ys) [true,false,true] True) (h2:At (RG Try.prog (af Try.prog 57 0) e σ) (A7 r n i k xs us f ys) [true,false,false,true] True) (h3:At (RG Try.prog (af Try.prog 57 0) e σ) (A7 r n i k xs us f ys) [true,false,false,false] True) (h4:At (RG Try.prog (af Try.prog 57 0) e σ) (A7 r n i k xs us f ys) [false] True):Runs Try.prog (CallsD Try.prog) (.rounds (af Try.prog 57 0)) (vH r n i k xs us f ys).abs e σ:=aO (hX1) (ahD r n i k xs us f ys) ⟨fun e0=>⟨fun e1=>h0 e0 e1,fun e1=>⟨fun e2=>h1 e0 e1 e2,fun e2=>⟨fun e3=>h2 e0 e1 e2 e3,fun e3=>h3 e0 e1 e2 e3⟩⟩⟩,fun e0=>h4 e0⟩
noncomputable def CB (r:Int) (k:Nat) (us0:List Bool) (m i:Int) (xs:List Int) (us:List Bool) (f:Int) (ys:List Bool):=o7 (r) (k) (us0) (m) (aj .add .i64 i 1) (xs) (us) (f) (ys)
noncomputable def pJ (r:Int) (k:Nat) (us0:List Bool) (m:Int) (i:Int) (xs:List Int) (us:List Bool) (f:Int) (ys:List Bool):Tr (Ex×Cs):= .d (ai .lss i m) (fun e0=> .s (decide (i< ↑(us0.length))=true) (.s (decide (0≤i)=true) (.s (decide (i< ↑k)=true) (.s (decide (0≤i)=true) (.s (i.toNat<ys.length) (.d (!ys.getD i.toNat false) (fun e1=> .p (.c 2) (.lf (Ex.ret,(o7 (8) (k) (us0) (m) (i) (xs) (us) (f) (ys))))) (fun e1=> .p (.c 0) (.d (us0.getD i.toNat false) (fun e2=> .p (.c 5) (.s (decide (i< ↑(xs.length))=true) (.s (decide (0≤i)=true) (.d (ai .neq (xs.getD i.toNat 0) (-1)) (fun e3=> .lf (Ex.ret,(o7 (8) (k) (us0) (m) (i) (xs) (us) (f) (ys)))) (fun e3=> .lf (Ex.normal,(CB r k us0 m i xs us f ys))))))) (fun e2=> .p (.c 6) (.lf (Ex.normal,(CB r k us0 m i xs us f ys)))))))))))) (fun e0=> .lf (Ex.exit 2,(o7 (r) (k) (us0) (m) (i) (xs) (us) (f) (ys))))
theorem ad7 (r:Int) (k:Nat) (us0:List Bool) (m i:Int) (xs:List Int) (us:List Bool) (f:Int) (ys:List Bool):Leaves (bT Try.prog (X2) 100000 (af Try.prog 57 1) [[1,2,4,53,54,55]] [(32,32),(832,832)] (o7 r k us0 m i xs us f ys)) (pJ r k us0 m i xs us f ys) [] []:=by refine⟨fun _=>⟨fun _=>?_,fun _=>⟨fun _=>⟨fun _=>?_,fun _=>?_⟩,fun _=>?_⟩⟩,fun _=>?_⟩<;>(show _=_;kernel_rfl)
theorem yK (r:Int) (k:Nat) (us0:List Bool) (m:Int) (i:Int) (xs:List Int) (us:List Bool) (f:Int) (ys:List Bool) (σ:St) (e:Ex) (h0:At (RG Try.prog (af Try.prog 57 1) e σ) (pJ r k us0 m i xs us f ys) [true,true] True) (h1:At (RG Try.prog (af Try.prog 57 1) e σ) (pJ r k us0 m i xs us f ys) [true,false,true,true] True) (h2:At (RG Try.prog (af Try.prog 57 1) e σ) (pJ r k us0 m i xs us f ys) [true,false,true,false] True) (h3:At (RG Try.prog (af Try.prog 57 1) e σ) (pJ r k us0 m i xs us f ys) [true,false,false] True) (h4:At (RG Try.prog (af Try.prog 57 1) e σ) (pJ r k us0 m i xs us f ys) [false] True):Runs Try.prog (CallsD Try.prog) (.rounds (af Try.prog 57 1)) (o7 r k us0 m i xs us f ys).abs e σ:=aO (hX2) (ad7 r k us0 m i xs us f ys) ⟨fun e0=>⟨fun e1=>h0 e0 e1,fun e1=>⟨fun e2=>⟨fun e3=>h1 e0 e1 e2 e3,fun e3=>h2 e0 e1 e2 e3⟩,fun e2=>h3 e0 e1 e2⟩⟩,fun e0=>h4 e0⟩
noncomputable def FX (r:Int) (k:Nat) (us0:List Bool) (m:Int) (i:Int) (xs:List Int) (us:List Bool) (f:Int) (ys:List Bool):Tr D:= .d (ai .lss (↑(xs.length)) 1) (fun e0=> .p (.c 6) (.lf (i64 8))) (fun e0=> .p (.c 0) (.d (ai .gtr (↑(xs.length)) 16) (fun e1=> .p (.c 4) (.lf (i64 8))) (fun e1=> .p (.c 3) (.d (ai .neq ↑(us.length) ↑(xs.length)) (fun e2=> .lf (i64 8)) (fun e2=> .p (.l [[1,2,3,4,5]] [(32,32),(832,832)] (vH 0 (↑(xs.length)) f us.length xs us f us) (Ex.exit 0) (vH 0 (↑(xs.length)) (-1) k xs us f ys)) (.p (.l [[1,2,4,53,54,55]] [(32,32),(832,832)] (o7 0 k us (↑(us.length)) 0 xs us f ys) (Ex.exit 2) (o7 0 k us0 m i xs us f ys)) (.s (us.length≤200) (.s (Runs Try.prog (CallsD Try.prog) (.code (.loop (af Try.prog 57 0))) (vH 0 (↑(xs.length)) f us.length xs us f us).abs (Ex.exit 0) (vH 0 (↑(xs.length)) (-1) k xs us f ys).abs) (.k ((vH 0 (↑(xs.length)) f us.length xs us f us=vH 0 (↑(xs.length)) f us.length xs us f us)) rfl (.s (Runs Try.prog (CallsD Try.prog) (.code (.loop (af Try.prog 57 1))) (o7 0 k us (↑(us.length)) 0 xs us f ys).abs (Ex.exit 2) (o7 0 k us0 m i xs us f ys).abs) (.k ((o7 0 k us (↑(us.length)) 0 xs us f ys=o7 0 k us (↑(us.length)) 0 xs us f ys)) rfl (.lf (i64 0)))))))))))))
theorem agV (r:Int) (k:Nat) (us0:List Bool) (m i:Int) (xs:List Int) (us:List Bool) (f:Int) (ys:List Bool):Leaves (fun l=>cu Try.prog (X2) 100000 l 57 [D.agg [ri xs,rb us,i64 f]]) (FX r k us0 m i xs us f ys) [] []:=by refine⟨fun _=>?_,fun _=>⟨fun _=>?_,fun _=>⟨fun _=>?_,fun _=>?_⟩⟩⟩<;>(show _=_;kernel_rfl)
theorem Ie (r:Int) (k:Nat) (us0:List Bool) (m i:Int) (xs:List Int) (us:List Bool) (f:Int) (ys:List Bool) (res:D) (h0:At (fun r=>res=r) (FX r k us0 m i xs us f ys) [true] True) (h1:At (fun r=>res=r) (FX r k us0 m i xs us f ys) [false,true] True) (h2:At (fun r=>res=r) (FX r k us0 m i xs us f ys) [false,false,true] True) (h3:At (fun r=>res=r) (FX r k us0 m i xs us f ys) [false,false,false] True):CallsD Try.prog 57 [D.agg [ri xs,rb us,i64 f]] res:=au (hX2) (agV r k us0 m i xs us f ys) ⟨fun e0=>h0 e0,fun e0=>⟨fun e1=>h1 e0 e1,fun e1=>⟨fun e2=>h2 e0 e1 e2,fun e2=>h3 e0 e1 e2⟩⟩⟩
noncomputable def IL (r:Int) (n:Int) (i:Int) (k:Nat) (xs:List Int) (us:List Bool) (f:Int) (ys:List Bool):Tr D:= .d (ai .lss (↑(xs.length)) 1) (fun e0=> .p (.c 6) (.lf (i64 8))) (fun e0=> .p (.c 0) (.d (ai .gtr (↑(xs.length)) 16) (fun e1=> .p (.c 4) (.lf (i64 8))) (fun e1=> .p (.c 3) (.d (ai .neq ↑(us.length) ↑(xs.length)) (fun e2=> .lf (i64 8)) (fun e2=> .p (.l [[1,2,3,4,5]] [(32,32),(832,832)] (vH 0 (↑(xs.length)) f us.length xs us f us) Ex.ret (vH r n i k xs us f ys)) (.s (us.length≤200) (.s (Runs Try.prog (CallsD Try.prog) (.code (.loop (af Try.prog 57 0))) (vH 0 (↑(xs.length)) f us.length xs us f us).abs (Ex.ret) (vH r n i k xs us f ys).abs) (.k ((vH 0 (↑(xs.length)) f us.length xs us f us=vH 0 (↑(xs.length)) f us.length xs us f us)) rfl (.lf (i64 r))))))))))
theorem aiD (r n i:Int) (k:Nat) (xs:List Int) (us:List Bool) (f:Int) (ys:List Bool):Leaves (fun l=>cu Try.prog (X2) 100000 l 57 [D.agg [ri xs,rb us,i64 f]]) (IL r n i k xs us f ys) [] []:=by refine⟨fun _=>?_,fun _=>⟨fun _=>?_,fun _=>⟨fun _=>?_,fun _=>?_⟩⟩⟩<;>(show _=_;kernel_rfl)
theorem Vf (r n i:Int) (k:Nat) (xs:List Int) (us:List Bool) (f:Int) (ys:List Bool) (res:D) (h0:At (fun r=>res=r) (IL r n i k xs us f ys) [true] True) (h1:At (fun r=>res=r) (IL r n i k xs us f ys) [false,true] True) (h2:At (fun r=>res=r) (IL r n i k xs us f ys) [false,false,true] True) (h3:At (fun r=>res=r) (IL r n i k xs us f ys) [false,false,false] True):CallsD Try.prog 57 [D.agg [ri xs,rb us,i64 f]] res:=au (hX2) (aiD r n i k xs us f ys) ⟨fun e0=>h0 e0,fun e0=>⟨fun e1=>h1 e0 e1,fun e1=>⟨fun e2=>h2 e0 e1 e2,fun e2=>h3 e0 e1 e2⟩⟩⟩
noncomputable def zx (r:Int) (k:Nat) (us0:List Bool) (m:Int) (i:Int) (xs:List Int) (us:List Bool) (f:Int) (ys:List Bool):Tr D:= .d (ai .lss (↑(xs.length)) 1) (fun e0=> .p (.c 6) (.lf (i64 8))) (fun e0=> .p (.c 0) (.d (ai .gtr (↑(xs.length)) 16) (fun e1=> .p (.c 4) (.lf (i64 8))) (fun e1=> .p (.c 3) (.d (ai .neq ↑(us.length) ↑(xs.length)) (fun e2=> .lf (i64 8)) (fun e2=> .p (.l [[1,2,3,4,5]] [(32,32),(832,832)] (vH 0 (↑(xs.length)) f us.length xs us f us) (Ex.exit 0) (vH 0 (↑(xs.length)) (-1) k xs us f ys)) (.p (.l [[1,2,4,53,54,55]] [(32,32),(832,832)] (o7 0 k us (↑(us.length)) 0 xs us f ys) Ex.ret (o7 r k us0 m i xs us f ys)) (.s (us.length≤200) (.s (Runs Try.prog (CallsD Try.prog) (.code (.loop (af Try.prog 57 0))) (vH 0 (↑(xs.length)) f us.length xs us f us).abs (Ex.exit 0) (vH 0 (↑(xs.length)) (-1) k xs us f ys).abs) (.k ((vH 0 (↑(xs.length)) f us.length xs us f us=vH 0 (↑(xs.length)) f us.length xs us f us)) rfl (.s (Runs Try.prog (CallsD Try.prog) (.code (.loop (af Try.prog 57 1))) (o7 0 k us (↑(us.length)) 0 xs us f ys).abs (Ex.ret) (o7 r k us0 m i xs us f ys).abs) (.k ((o7 0 k us (↑(us.length)) 0 xs us f ys=o7 0 k us (↑(us.length)) 0 xs us f ys)) rfl (.lf (i64 r)))))))))))))
theorem ads (r:Int) (k:Nat) (us0:List Bool) (m i:Int) (xs:List Int) (us:List Bool) (f:Int) (ys:List Bool):Leaves (fun l=>cu Try.prog (X2) 100000 l 57 [D.agg [ri xs,rb us,i64 f]]) (zx r k us0 m i xs us f ys) [] []:=by refine⟨fun _=>?_,fun _=>⟨fun _=>?_,fun _=>⟨fun _=>?_,fun _=>?_⟩⟩⟩<;>(show _=_;kernel_rfl)
theorem Pv (r:Int) (k:Nat) (us0:List Bool) (m i:Int) (xs:List Int) (us:List Bool) (f:Int) (ys:List Bool) (res:D) (h0:At (fun r=>res=r) (zx r k us0 m i xs us f ys) [true] True) (h1:At (fun r=>res=r) (zx r k us0 m i xs us f ys) [false,true] True) (h2:At (fun r=>res=r) (zx r k us0 m i xs us f ys) [false,false,true] True) (h3:At (fun r=>res=r) (zx r k us0 m i xs us f ys) [false,false,false] True):CallsD Try.prog 57 [D.agg [ri xs,rb us,i64 f]] res:=au (hX2) (ads r k us0 m i xs us f ys) ⟨fun e0=>h0 e0,fun e0=>⟨fun e1=>h1 e0 e1,fun e1=>⟨fun e2=>h2 e0 e1 e2,fun e2=>h3 e0 e1 e2⟩⟩⟩
def unseen:List Bool→Nat
 |[]=>0
 |b::l=>(bif b then 0 else 1)+unseen l
theorem wI:∀ (ys:List Bool) (i:Nat),i<ys.length→ys.getD i false=false→unseen (ys.set i true)+1=unseen ys
 |[],i,h,_=>by simp at h
 |b::l,0,_,hb=>by
  simp at hb;subst hb
  simp[unseen];omega
 |b::l,i+1,h,hb=>by
  have:=wI l i (by simpa using h) (by simpa using hb)
  simp only[List.set_cons_succ,unseen];omega
theorem yT:∀ ys:List Bool,unseen ys≤ys.length
 |[]=>Nat.le_refl _
 |b::l=>by have:=yT l;cases b<;>simp[unseen]<;>omega
def qC (nx:List Int):Nat→Int→List Bool→Option (List Bool)
 |0,_,_=>none
 |d+1,i,ys=>if i=-1 then some ys else if i<0∨(nx.length:Int)≤i∨ys.getD i.toNat false=true then none else qC nx d (nx.getD i.toNat 0) (ys.set i.toNat true)
theorem Hu {nx:List Int}:∀ {d:Nat} {i:Int} {ys ys':List Bool},qC nx d i ys=some ys'→ys'.length=ys.length
 |0,_,_,_,h=>by cases h
 |d+1,i,ys,ys',h=>by
  simp only[qC] at h
  split at h
  ·simp only[Option.some.injEq] at h;subst h;rfl
  ·split at h
   ·cases h
   ·have:=Hu h;simpa using this
theorem adn (xs:List Int) (us:List Bool) (f:Int):∀ (d:Nat) (i:Int) (ys:List Bool),ys.length=xs.length→unseen ys<d→
  match qC xs d i ys with
  |some ys'=>Runs Try.prog (CallsD Try.prog) (.rounds (af Try.prog 57 0)) (vH 0 xs.length i xs.length xs us f ys).abs (.exit 0) (vH 0 xs.length (-1) xs.length xs us f ys').abs
  |none=>∃ (i':Int) (ys':List Bool),Runs Try.prog (CallsD Try.prog) (.rounds (af Try.prog 57 0)) (vH 0 xs.length i xs.length xs us f ys).abs .ret (vH 8 xs.length i' xs.length xs us f ys').abs:=by
 intro d
 induction d with
 |zero=>intro i ys _ h;omega
 |succ d ih=>
  intro i ys hl hd
  simp only[qC]
  by_cases c1:i=-1
  ·subst c1
   simp only[if_true]
   refine Dw 0 xs.length (-1) xs.length xs us f ys _ _ ?_ ?_ ?_ ?_ ?_<;>dsimp only[At,Tr.q,RG,A7]
   ·intro g;rw[aP] at g;exact absurd rfl g
   ·intro g;rw[aP] at g;exact absurd rfl g
   ·intro g;rw[aP] at g;exact absurd rfl g
   ·intro g;rw[aP] at g;exact absurd rfl g
   ·intro _;exact⟨trivial,rfl,rfl⟩
  ·rw[if_neg c1]
   by_cases c2:i<0∨(xs.length:Int)≤i∨ys.getD i.toNat false=true
   ·rw[if_pos c2]
    refine⟨i,ys,Dw 0 xs.length i xs.length xs us f ys _ _ ?_ ?_ ?_ ?_ ?_⟩
    ·intro _ _;exact⟨trivial,rfl,rfl⟩
    ·intro _ _ _;exact⟨trivial,rfl,rfl⟩
    ·intro _ g1 g2 _
     rw[aX] at g1;rw[iP] at g2
     exact⟨⟨by omega,by simpa using g1,by simpa using g2,trivial⟩,rfl,rfl⟩
    ·intro _ g1 g2 g3
     rw[aX] at g1;rw[iP] at g2
     rcases c2 with c | c | c
     ·omega
     ·omega
     ·rw[c] at g3;cases g3
    ·intro g;rw[aY] at g;exact absurd g c1
   ·rw[if_neg c2]
    have hi0:0≤i:=by omega
    have hi1:i<(xs.length:Int):=by omega
    have hi2:ys.getD i.toNat false=false:=by
     cases e:ys.getD i.toNat false with
     |false=>rfl
     |true=>exact absurd (.inr (.inr e)) c2
    have hu:=wI ys i.toNat (by omega) hi2
    have r:=ih (xs.getD i.toNat 0) (ys.set i.toNat true) (by simpa using hl) (by omega)
    have d0:decide (0≤i)=true:=by simpa using hi0
    have d1:decide (i<(xs.length:Int))=true:=by simpa using hi1
    have step:∀ (σ:St) (e:Ex),Runs Try.prog (CallsD Try.prog) (.rounds (af Try.prog 57 0)) (vH 0 xs.length (xs.getD i.toNat 0) xs.length xs us f (ys.set i.toNat true)).abs e σ→Runs Try.prog (CallsD Try.prog) (.rounds (af Try.prog 57 0)) (vH 0 xs.length i xs.length xs us f ys).abs e σ:=by
     intro σ e hr
     refine Dw 0 xs.length i xs.length xs us f ys σ e ?_ ?_ ?_ ?_ ?_<;>dsimp only[At,Tr.q,RG,A7]
     ·intro _ g;rw[aQ] at g;omega
     ·intro _ _ g;rw[iQ] at g;omega
     ·intro _ _ _ g;rw[hi2] at g;cases g
     ·intro _ _ _ _
      exact⟨⟨d0,d1,by omega,rfl,d0,d1,by omega,d0,d1,trivial⟩,hr⟩
     ·intro g;rw[aY] at g;exact absurd g c1
    cases hw:qC xs d (xs.getD i.toNat 0) (ys.set i.toNat true) with
    |some ys'=>rw[hw] at r;exact step _ _ r
    |none=>
     rw[hw] at r
     obtain⟨i',ys',r⟩:=r
     exact⟨i',ys',step _ _ r⟩
def Ed (nx:List Int) (us ys:List Bool) (i:Nat):Bool:=!ys.getD i false || (us.getD i false && nx.getD i 0 != -1)
def OZ (nx:List Int) (us:List Bool) (f:Int):Int:=
 if 1≤nx.length∧nx.length≤16∧us.length=nx.length then match qC nx (nx.length+1) f us with
  |some ys=>if gJ (Ed nx us ys) nx.length 0<0 then 0 else 8
  |none=>8
 else 8
theorem ahx (xs:List Int) (us:List Bool) (f:Int) (h:us.length≤200):CallsD Try.prog 57 [.agg [ri xs,rb us,i64 f]] (i64 (OZ xs us f)):=by
 unfold OZ
 by_cases c:1≤xs.length∧xs.length≤16∧us.length=xs.length
 ·rw[if_pos c]
  obtain⟨c1,c2,c3⟩:=c
  have r:=adn xs us f (xs.length+1) f us c3 (by have:=yT us;omega)
  cases hw:qC xs (xs.length+1) f us with
  |none=>
   rw[hw] at r
   obtain⟨i',ys',r⟩:=r
   refine Vf 8 xs.length i' xs.length xs us f ys' _ ?_ ?_ ?_ ?_<;>dsimp only[At,Tr.q,IL]
   ·intro g;rw[aQ] at g;omega
   ·intro _ g;rw[dV] at g;omega
   ·intro _ _ g;rw[aP] at g;omega
   ·intro _ _ _
    have r':=ak r
    refine⟨⟨?_,h,trivial⟩,rfl⟩
    rw[c3];exact r'
  |some ys=>
   rw[hw] at r
   have hl:=Hu hw
   have r':=ak r
   simp only
   refine fF (b:=af Try.prog 57 1) (fun i=>o7 0 xs.length us us.length (i:Int) xs us f ys) xs.length (Ed xs us ys) (fun v=>CallsD Try.prog 57 [.agg [ri xs,rb us,i64 f]] (i64 (if v<0 then 0 else 8))) ?_ ?_ ?_
   ·intro i hi hp σ e hr
    have n1:=ay hi
    have n2:=ay (n:=us.length) (i:=i) (by omega)
    simp only[Ed,Bool.or_eq_false_iff,Bool.not_eq_false'] at hp
    refine yK 0 xs.length us us.length i xs us f ys σ e ?_ ?_ ?_ ?_ ?_<;>dsimp only[At,Tr.q,RG,pJ]
    ·intro _ g;rw[Int.toNat_natCast,hp.1] at g;cases g
    ·intro _ _ g1 g2
     rw[Int.toNat_natCast] at g1 g2
     rw[aP] at g2
     have:=hp.2
     rw[g1] at this;simp at this;exact absurd this (by simpa using g2)
    ·intro _ _ _ _
     unfold CB;rw[dF hi (by omega)]
     exact⟨⟨n1.1,n1.2,by rw[Int.toNat_natCast];omega,n1.1,n1.2,n2.1,n2.2,trivial⟩,hr⟩
    ·intro _ _ _
     unfold CB;rw[dF hi (by omega)]
     exact⟨⟨by rw[Int.toNat_natCast];omega,n1.1,n1.2,n2.1,n2.2,trivial⟩,hr⟩
    ·intro g;rw[aX] at g;omega
   ·intro hr
    refine Ie 0 xs.length us us.length us.length xs us f ys _ ?_ ?_ ?_ ?_<;>dsimp only[At,Tr.q,FX]
    ·intro g;rw[aQ] at g;omega
    ·intro _ g;rw[dV] at g;omega
    ·intro _ _ g;rw[aP] at g;omega
    ·intro _ _ _
     refine⟨⟨ak (hr _ _ ?_),?_,h,trivial⟩,rfl⟩
     ·rw[←c3]
      refine yK 0 us.length us us.length us.length xs us f ys _ _ ?_ ?_ ?_ ?_ ?_<;>dsimp only[At,Tr.q,RG,pJ]
      ·intro g;rw[aQ] at g;omega
      ·intro g;rw[aQ] at g;omega
      ·intro g;rw[aQ] at g;omega
      ·intro g;rw[aQ] at g;omega
      ·intro _;exact⟨trivial,rfl,rfl⟩
     ·rw[c3];exact r'
   ·intro j hj hp hr
    have n1:=ay hj
    have n2:=ay (n:=us.length) (i:=j) (by omega)
    refine Pv 8 xs.length us us.length j xs us f ys _ ?_ ?_ ?_ ?_<;>dsimp only[At,Tr.q,zx]
    ·intro g;rw[aQ] at g;omega
    ·intro _ g;rw[dV] at g;omega
    ·intro _ _ g;rw[aP] at g;omega
    ·intro _ _ _
     refine⟨⟨ak (hr _ _ ?_),?_,h,trivial⟩,by rw[if_neg (by omega)]⟩
     ·refine yK 0 xs.length us us.length j xs us f ys _ _ ?_ ?_ ?_ ?_ ?_<;>dsimp only[At,Tr.q,RG,pJ]
      ·intro _ _;exact⟨⟨by rw[Int.toNat_natCast];omega,n1.1,n1.2,n2.1,n2.2,trivial⟩,rfl,rfl⟩
      ·intro _ _ _ _;exact⟨⟨n1.1,n1.2,by rw[Int.toNat_natCast];omega,n1.1,n1.2,n2.1,n2.2,trivial⟩,rfl,rfl⟩
      ·intro _ g1 g2 g3
       rw[Int.toNat_natCast] at g1 g2 g3
       rw[aY] at g3
       simp only[Ed,g2,g3,Bool.or_eq_true] at hp
       rcases hp with hp | hp
       ·rw[hp] at g1;cases g1
       ·simp at hp
      ·intro _ g1 g2
       rw[Int.toNat_natCast] at g1 g2
       simp only[Ed,g2,Bool.false_and,Bool.or_false] at hp
       rw[hp] at g1;cases g1
      ·intro g;rw[aX] at g;omega
     ·rw[c3];exact r'
 ·rw[if_neg c]
  refine Ie 0 0 [] 0 0 xs us f [] _ ?_ ?_ ?_ ?_<;>dsimp only[At,Tr.q,FX]
  ·intro _;exact⟨trivial,rfl⟩
  ·intro _ _;exact⟨trivial,rfl⟩
  ·intro _ _ _;exact⟨trivial,rfl⟩
  ·intro g1 g2 g3
   rw[aX] at g1;rw[gI] at g2;rw[aY] at g3;omega
end TableS
end
