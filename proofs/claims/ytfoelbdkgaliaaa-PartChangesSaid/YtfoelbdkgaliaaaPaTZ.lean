/- What the functions compute, and the law. No condition. -/
import Derived.Test.YtfoelbdkgaliaaaPaTW
set_option linter.unusedSectionVars false
set_option linter.unusedVariables false
set_option linter.unusedSimpArgs false
section
namespace TableS
open Go Go.Dam Go.Proofs
set_option maxRecDepth 1000000
noncomputable def TY (T:Tb) (i:Int):=T.x2.getD i.toNat 0 ==0 && (T.x3.getD i.toNat 0 ==0 && true)
noncomputable def Tv (T:Tb) (i:Int):=T.x5.getD i.toNat 0 ==0 && (T.x6.getD i.toNat 0 ==0 && true)
noncomputable def KJ (T:Tb) (i:Int):=!T.us.getD i.toNat false ==ai .eql (↑(Gu T.kx.length T.px T.ux i)) 1
noncomputable def CS (T:Tb) (i:Int):=T.x1.getD i.toNat 0 ==0 && (TY T i) && (T.x4.getD i.toNat 0 ==0 && (Tv T i))
noncomputable def Jy (T:Tb) (i:Int):=wM (T.x1.getD i.toNat 0) (T.x2.getD i.toNat 0) (T.x3.getD i.toNat 0) (T.x4.getD i.toNat 0) (T.x5.getD i.toNat 0)
noncomputable def jf (T:Tb) (o:Int) (m:Nat) (i:Int) (l:List Int):Tr (Ex×Cs):= .d (ai .lss i T.n) (fun e0=> .s (decide (i<(T.ks.length:Int))=true) (.s (decide (0≤i)=true) (.s (T.kx.length≤200) (.s (decide (i<(T.us.length:Int))=true) (.s (decide (0≤i)=true) (.s (l.length≤200) (.s (m=l.length) (.d (!T.us.getD i.toNat false ==inB l i) (fun e1=> .p (.c 10) (.lf (Ex.ret,(jv T (8) (m) (i) (l))))) (fun e1=> .p (.c 7) (.s (decide (i<(T.us.length:Int))=true) (.s (decide (0≤i)=true) (.d (KJ T i) (fun e2=> .p (.c 1) (.lf (Ex.ret,(jv T (8) (m) (i) (l))))) (fun e2=> .p (.c 0) (.d (!RD T.kx.length T.kx T.px T.ux i (T.ks.getD i.toNat 0)) (fun e3=> .lf (Ex.ret,(jv T (8) (m) (i) (l)))) (fun e3=> .s (decide (i<(T.us.length:Int))=true) (.s (decide (0≤i)=true) (.d (T.us.getD i.toNat false) (fun e4=> .p (.c 5) (.s (decide (i<(T.x1.length:Int))=true) (.s (decide (0≤i)=true) (.d (ai .neq (Jy T i) 0) (fun e5=> .lf (Ex.ret,(jv T (8) (m) (i) (l)))) (fun e5=> .s (decide (i<(T.us.length:Int))=true) (.s (decide (0≤i)=true) (.d (!T.us.getD i.toNat false) (fun e6=> .p (.c 5) (.s (decide (i<(T.ks.length:Int))=true) (.s (decide (0≤i)=true) (.d (ai .neq (T.ks.getD i.toNat 0) 0) (fun e7=> .p (.c 7) (.lf (Ex.ret,(jv T (8) (m) (i) (l))))) (fun e7=> .p (.c 6) (.s (decide (i<(T.x1.length:Int))=true) (.s (decide (0≤i)=true) (.d (!(CS T i)) (fun e8=> .lf (Ex.ret,(jv T (8) (m) (i) (l)))) (fun e8=> .lf (Ex.normal,(jv T (o) (m) (aj .add .i64 i 1) (l)))))))))))) (fun e6=> .p (.c 7) (.lf (Ex.normal,(jv T (o) (m) (aj .add .i64 i 1) (l)))))))))))) (fun e4=> .p (.c 6) (.s (decide (i<(T.us.length:Int))=true) (.s (decide (0≤i)=true) (.d (!T.us.getD i.toNat false) (fun e5=> .p (.c 5) (.s (decide (i<(T.ks.length:Int))=true) (.s (decide (0≤i)=true) (.d (ai .neq (T.ks.getD i.toNat 0) 0) (fun e6=> .p (.c 7) (.lf (Ex.ret,(jv T (8) (m) (i) (l))))) (fun e6=> .p (.c 6) (.s (decide (i<(T.x1.length:Int))=true) (.s (decide (0≤i)=true) (.d (!(CS T i)) (fun e7=> .lf (Ex.ret,(jv T (8) (m) (i) (l)))) (fun e7=> .lf (Ex.normal,(jv T (o) (m) (aj .add .i64 i 1) (l)))))))))))) (fun e5=> .p (.c 7) (.lf (Ex.normal,(jv T (o) (m) (aj .add .i64 i 1) (l)))))))))))))))))))))))))) (fun e0=> .lf (Ex.exit 0,(jv T (o) (m) (i) (l))))
theorem ad8 (T:Tb) (o:Int) (m:Nat) (i:Int) (l:List Int):Leaves (bT Try.prog (X9) 100000 (af Try.prog 44 0) [[1,2,3,5]] [(32,32),(2208,2208)] (jv T o m i l)) (jf T o m i l) [] []:=by refine⟨fun _=>⟨fun _=>?_,fun _=>⟨fun _=>?_,fun _=>⟨fun _=>?_,fun _=>⟨fun _=>⟨fun _=>?_,fun _=>⟨fun _=>⟨fun _=>?_,fun _=>⟨fun _=>?_,fun _=>?_⟩⟩,fun _=>?_⟩⟩,fun _=>⟨fun _=>⟨fun _=>?_,fun _=>⟨fun _=>?_,fun _=>?_⟩⟩,fun _=>?_⟩⟩⟩⟩⟩,fun _=>?_⟩<;>(show _=_;kernel_rfl)
theorem yE (T:Tb) (o:Int) (m:Nat) (i:Int) (l:List Int) (σ:St) (e:Ex) (h0:At (RG Try.prog (af Try.prog 44 0) e σ) (jf T o m i l) [true,true] True) (h1:At (RG Try.prog (af Try.prog 44 0) e σ) (jf T o m i l) [true,false,true] True) (h2:At (RG Try.prog (af Try.prog 44 0) e σ) (jf T o m i l) [true,false,false,true] True) (h3:At (RG Try.prog (af Try.prog 44 0) e σ) (jf T o m i l) [true,false,false,false,true,true] True) (h4:At (RG Try.prog (af Try.prog 44 0) e σ) (jf T o m i l) [true,false,false,false,true,false,true,true] True) (h5:At (RG Try.prog (af Try.prog 44 0) e σ) (jf T o m i l) [true,false,false,false,true,false,true,false,true] True) (h6:At (RG Try.prog (af Try.prog 44 0) e σ) (jf T o m i l) [true,false,false,false,true,false,true,false,false] True) (h7:At (RG Try.prog (af Try.prog 44 0) e σ) (jf T o m i l) [true,false,false,false,true,false,false] True) (h8:At (RG Try.prog (af Try.prog 44 0) e σ) (jf T o m i l) [true,false,false,false,false,true,true] True) (h9:At (RG Try.prog (af Try.prog 44 0) e σ) (jf T o m i l) [true,false,false,false,false,true,false,true] True) (h10:At (RG Try.prog (af Try.prog 44 0) e σ) (jf T o m i l) [true,false,false,false,false,true,false,false] True) (h11:At (RG Try.prog (af Try.prog 44 0) e σ) (jf T o m i l) [true,false,false,false,false,false] True) (h12:At (RG Try.prog (af Try.prog 44 0) e σ) (jf T o m i l) [false] True):Runs Try.prog (CallsD Try.prog) (.rounds (af Try.prog 44 0)) (jv T o m i l).abs e σ:=aO (LX) (ad8 T o m i l) ⟨fun e0=>⟨fun e1=>h0 e0 e1,fun e1=>⟨fun e2=>h1 e0 e1 e2,fun e2=>⟨fun e3=>h2 e0 e1 e2 e3,fun e3=>⟨fun e4=>⟨fun e5=>h3 e0 e1 e2 e3 e4 e5,fun e5=>⟨fun e6=>⟨fun e7=>h4 e0 e1 e2 e3 e4 e5 e6 e7,fun e7=>⟨fun e8=>h5 e0 e1 e2 e3 e4 e5 e6 e7 e8,fun e8=>h6 e0 e1 e2 e3 e4 e5 e6 e7 e8⟩⟩,fun e6=>h7 e0 e1 e2 e3 e4 e5 e6⟩⟩,fun e4=>⟨fun e5=>⟨fun e6=>h8 e0 e1 e2 e3 e4 e5 e6,fun e6=>⟨fun e7=>h9 e0 e1 e2 e3 e4 e5 e6 e7,fun e7=>h10 e0 e1 e2 e3 e4 e5 e6 e7⟩⟩,fun e5=>h11 e0 e1 e2 e3 e4 e5⟩⟩⟩⟩⟩,fun e0=>h12 e0⟩
noncomputable def Jp (T:Tb):=ai .neq ↑(iL T.kx.length T.ux) ↑((dN T.no T.h).length)
noncomputable def kG (T:Tb) (i:Int):Tr D:= .d (ai .lss T.n 1) (fun e0=> .p (.c 28) (.lf (i64 8))) (fun e0=> .p (.c 1) (.d (ai .gtr T.n 8) (fun e1=> .p (.c 25) (.lf (i64 8))) (fun e1=> .p (.c 4) (.d (ai .neq ((T.ks.length:Int)) T.n) (fun e2=> .p (.c 19) (.lf (i64 8))) (fun e2=> .p (.c 4) (.d (ai .neq ((T.x1.length:Int)) T.n) (fun e3=> .p (.c 13) (.lf (i64 8))) (fun e3=> .p (.c 5) (.d (ai .neq ((T.nx.length:Int)) T.n) (fun e4=> .p (.c 6) (.lf (i64 8))) (fun e4=> .p (.c 5) (.d (ai .neq ((T.ps.length:Int)) T.n) (fun e5=> .lf (i64 8)) (fun e5=> .s (T.nx.length≤200) (.d (ai .neq (wJ T.nx T.us T.fr) 0) (fun e6=> .p (.c 7) (.lf (i64 8))) (fun e6=> .p (.c 2) (.s (okI T.kx) (.d (ai .neq (yJ T.kx T.px T.ux) 0) (fun e7=> .p (.c 3) (.lf (i64 8))) (fun e7=> .p (.c 2) (.s (T.no.length≤200) (.d (ai .neq (vJ T.ps T.no T.h T.t) 0) (fun e8=> .lf (i64 8)) (fun e8=> .s (T.no.length≤200) (.s (T.kx.length≤200) (.d (Jp T) (fun e9=> .lf (i64 8)) (fun e9=> .p (.l [[1,2,3,5]] [(32,32),(2208,2208)] (jv T 0 ((dN T.no T.h).length) 0 (dN T.no T.h)) (Ex.exit 0) (jv T 0 ((dN T.no T.h).length) i (dN T.no T.h))) (.s (Runs Try.prog (CallsD Try.prog) (.code (.loop (af Try.prog 44 0))) (jv T 0 ((dN T.no T.h).length) 0 (dN T.no T.h)).abs (Ex.exit 0) (jv T 0 ((dN T.no T.h).length) i (dN T.no T.h)).abs) (.k ((jv T 0 ((dN T.no T.h).length) 0 (dN T.no T.h)=jv T 0 ((dN T.no T.h).length) 0 (dN T.no T.h))) rfl (.lf (i64 0))))))))))))))))))))))))))
theorem adv (T:Tb) (i:Int):Leaves (fun l=>cu Try.prog (X9) 100000 l 44 [T.d]) (kG T i) [] []:=by refine⟨fun _=>?_,fun _=>⟨fun _=>?_,fun _=>⟨fun _=>?_,fun _=>⟨fun _=>?_,fun _=>⟨fun _=>?_,fun _=>⟨fun _=>?_,fun _=>⟨fun _=>?_,fun _=>⟨fun _=>?_,fun _=>⟨fun _=>?_,fun _=>⟨fun _=>?_,fun _=>?_⟩⟩⟩⟩⟩⟩⟩⟩⟩⟩<;>(show _=_;kernel_rfl)
theorem O4 (T:Tb) (i:Int) (res:D) (h0:At (fun r=>res=r) (kG T i) [true] True) (h1:At (fun r=>res=r) (kG T i) [false,true] True) (h2:At (fun r=>res=r) (kG T i) [false,false,true] True) (h3:At (fun r=>res=r) (kG T i) [false,false,false,true] True) (h4:At (fun r=>res=r) (kG T i) [false,false,false,false,true] True) (h5:At (fun r=>res=r) (kG T i) [false,false,false,false,false,true] True) (h6:At (fun r=>res=r) (kG T i) [false,false,false,false,false,false,true] True) (h7:At (fun r=>res=r) (kG T i) [false,false,false,false,false,false,false,true] True) (h8:At (fun r=>res=r) (kG T i) [false,false,false,false,false,false,false,false,true] True) (h9:At (fun r=>res=r) (kG T i) [false,false,false,false,false,false,false,false,false,true] True) (h10:At (fun r=>res=r) (kG T i) [false,false,false,false,false,false,false,false,false,false] True):CallsD Try.prog 44 [T.d] res:=au (LX) (adv T i) ⟨fun e0=>h0 e0,fun e0=>⟨fun e1=>h1 e0 e1,fun e1=>⟨fun e2=>h2 e0 e1 e2,fun e2=>⟨fun e3=>h3 e0 e1 e2 e3,fun e3=>⟨fun e4=>h4 e0 e1 e2 e3 e4,fun e4=>⟨fun e5=>h5 e0 e1 e2 e3 e4 e5,fun e5=>⟨fun e6=>h6 e0 e1 e2 e3 e4 e5 e6,fun e6=>⟨fun e7=>h7 e0 e1 e2 e3 e4 e5 e6 e7,fun e7=>⟨fun e8=>h8 e0 e1 e2 e3 e4 e5 e6 e7 e8,fun e8=>⟨fun e9=>h9 e0 e1 e2 e3 e4 e5 e6 e7 e8 e9,fun e9=>h10 e0 e1 e2 e3 e4 e5 e6 e7 e8 e9⟩⟩⟩⟩⟩⟩⟩⟩⟩⟩
noncomputable def CP (T:Tb):=ai .neq ↑(iL T.kx.length T.ux) ↑((dN T.no T.h).length)
noncomputable def jQ (T:Tb) (o:Int) (i:Int):Tr D:= .d (ai .lss T.n 1) (fun e0=> .p (.c 28) (.lf (i64 8))) (fun e0=> .p (.c 1) (.d (ai .gtr T.n 8) (fun e1=> .p (.c 25) (.lf (i64 8))) (fun e1=> .p (.c 4) (.d (ai .neq ((T.ks.length:Int)) T.n) (fun e2=> .p (.c 19) (.lf (i64 8))) (fun e2=> .p (.c 4) (.d (ai .neq ((T.x1.length:Int)) T.n) (fun e3=> .p (.c 13) (.lf (i64 8))) (fun e3=> .p (.c 5) (.d (ai .neq ((T.nx.length:Int)) T.n) (fun e4=> .p (.c 6) (.lf (i64 8))) (fun e4=> .p (.c 5) (.d (ai .neq ((T.ps.length:Int)) T.n) (fun e5=> .lf (i64 8)) (fun e5=> .s (T.nx.length≤200) (.d (ai .neq (wJ T.nx T.us T.fr) 0) (fun e6=> .p (.c 7) (.lf (i64 8))) (fun e6=> .p (.c 2) (.s (okI T.kx) (.d (ai .neq (yJ T.kx T.px T.ux) 0) (fun e7=> .p (.c 3) (.lf (i64 8))) (fun e7=> .p (.c 2) (.s (T.no.length≤200) (.d (ai .neq (vJ T.ps T.no T.h T.t) 0) (fun e8=> .lf (i64 8)) (fun e8=> .s (T.no.length≤200) (.s (T.kx.length≤200) (.d (CP T) (fun e9=> .lf (i64 8)) (fun e9=> .p (.l [[1,2,3,5]] [(32,32),(2208,2208)] (jv T 0 ((dN T.no T.h).length) 0 (dN T.no T.h)) Ex.ret (jv T o ((dN T.no T.h).length) i (dN T.no T.h))) (.s (Runs Try.prog (CallsD Try.prog) (.code (.loop (af Try.prog 44 0))) (jv T 0 ((dN T.no T.h).length) 0 (dN T.no T.h)).abs (Ex.ret) (jv T o ((dN T.no T.h).length) i (dN T.no T.h)).abs) (.k ((jv T 0 ((dN T.no T.h).length) 0 (dN T.no T.h)=jv T 0 ((dN T.no T.h).length) 0 (dN T.no T.h))) rfl (.lf (i64 o))))))))))))))))))))))))))
theorem agn (T:Tb) (o i:Int):Leaves (fun l=>cu Try.prog (X9) 100000 l 44 [T.d]) (jQ T o i) [] []:=by refine⟨fun _=>?_,fun _=>⟨fun _=>?_,fun _=>⟨fun _=>?_,fun _=>⟨fun _=>?_,fun _=>⟨fun _=>?_,fun _=>⟨fun _=>?_,fun _=>⟨fun _=>?_,fun _=>⟨fun _=>?_,fun _=>⟨fun _=>?_,fun _=>⟨fun _=>?_,fun _=>?_⟩⟩⟩⟩⟩⟩⟩⟩⟩⟩<;>(show _=_;kernel_rfl)
theorem EC (T:Tb) (o i:Int) (res:D) (h0:At (fun r=>res=r) (jQ T o i) [true] True) (h1:At (fun r=>res=r) (jQ T o i) [false,true] True) (h2:At (fun r=>res=r) (jQ T o i) [false,false,true] True) (h3:At (fun r=>res=r) (jQ T o i) [false,false,false,true] True) (h4:At (fun r=>res=r) (jQ T o i) [false,false,false,false,true] True) (h5:At (fun r=>res=r) (jQ T o i) [false,false,false,false,false,true] True) (h6:At (fun r=>res=r) (jQ T o i) [false,false,false,false,false,false,true] True) (h7:At (fun r=>res=r) (jQ T o i) [false,false,false,false,false,false,false,true] True) (h8:At (fun r=>res=r) (jQ T o i) [false,false,false,false,false,false,false,false,true] True) (h9:At (fun r=>res=r) (jQ T o i) [false,false,false,false,false,false,false,false,false,true] True) (h10:At (fun r=>res=r) (jQ T o i) [false,false,false,false,false,false,false,false,false,false] True):CallsD Try.prog 44 [T.d] res:=au (LX) (agn T o i) ⟨fun e0=>h0 e0,fun e0=>⟨fun e1=>h1 e0 e1,fun e1=>⟨fun e2=>h2 e0 e1 e2,fun e2=>⟨fun e3=>h3 e0 e1 e2 e3,fun e3=>⟨fun e4=>h4 e0 e1 e2 e3 e4,fun e4=>⟨fun e5=>h5 e0 e1 e2 e3 e4 e5,fun e5=>⟨fun e6=>h6 e0 e1 e2 e3 e4 e5 e6,fun e6=>⟨fun e7=>h7 e0 e1 e2 e3 e4 e5 e6 e7,fun e7=>⟨fun e8=>h8 e0 e1 e2 e3 e4 e5 e6 e7 e8,fun e8=>⟨fun e9=>h9 e0 e1 e2 e3 e4 e5 e6 e7 e8 e9,fun e9=>h10 e0 e1 e2 e3 e4 e5 e6 e7 e8 e9⟩⟩⟩⟩⟩⟩⟩⟩⟩⟩
noncomputable def vP (T:Tb):Tr D:= .d (ai .gtr ((T.ks.length:Int)) 100) (fun e0=> .p (.c 12) (.lf (bo true))) (fun e0=> .p (.c 2) (.d (ai .gtr ((T.x1.length:Int)) 100) (fun e1=> .p (.c 8) (.lf (bo true))) (fun e1=> .p (.c 2) (.d (ai .gtr ((T.kx.length:Int)) 100) (fun e2=> .p (.c 4) (.lf (bo true))) (fun e2=> .p (.c 1) (.d (UE T.nx.length T.us.length) (fun e3=> .p (.c 1) (.lf (bo true))) (fun e3=> .p (.c 1) (.lf (bo (UE T.ps.length T.no.length))))))))))
theorem aeN (T:Tb):Leaves (fun l=>cu Try.prog (X9) 100000 l 15 [T.d]) (vP T) [] []:=by refine⟨fun _=>?_,fun _=>⟨fun _=>?_,fun _=>⟨fun _=>?_,fun _=>⟨fun _=>?_,fun _=>?_⟩⟩⟩⟩<;>(show _=_;kernel_rfl)
theorem P8 (T:Tb) (res:D) (h0:At (fun r=>res=r) (vP T) [true] True) (h1:At (fun r=>res=r) (vP T) [false,true] True) (h2:At (fun r=>res=r) (vP T) [false,false,true] True) (h3:At (fun r=>res=r) (vP T) [false,false,false,true] True) (h4:At (fun r=>res=r) (vP T) [false,false,false,false] True):CallsD Try.prog 15 [T.d] res:=au (LX) (aeN T) ⟨fun e0=>h0 e0,fun e0=>⟨fun e1=>h1 e0 e1,fun e1=>⟨fun e2=>h2 e0 e1 e2,fun e2=>⟨fun e3=>h3 e0 e1 e2 e3,fun e3=>h4 e0 e1 e2 e3⟩⟩⟩⟩
theorem z18 (T:Tb) (i:Nat):CS T (i:Int)=z6 T i:=by
 unfold CS TY Tv z6;simp only[Int.toNat_natCast,Bool.and_true,Bool.and_assoc]
theorem c18 (T:Tb) (i:Nat):KJ T (i:Int)=!(T.us.getD i false ==decide (Gu T.kx.length T.px T.ux i=1)):=by
 have:ai .eql (((Gu T.kx.length T.px T.ux i:Nat):Int)) 1=decide (Gu T.kx.length T.px T.ux i=1):=by
  rw[Bool.eq_iff_iff,iM,decide_eq_true_eq];omega
 unfold KJ;rw[this,Int.toNat_natCast]
def nH (T:Tb) (l:List Int) (i:Nat):Bool:=
 (!(T.us.getD i false ==inB l i)) || ((!(T.us.getD i false ==decide (Gu T.kx.length T.px T.ux i=1))) || ((!RD T.kx.length T.kx T.px T.ux i (T.ks.getD i 0)) || (if T.us.getD i false=true then decide (bk6 T i≠0) else decide (T.ks.getD i 0≠0) || !z6 T i)))
def BG (T:Tb):Int:=
 if T.sz∧wJ T.nx T.us T.fr=0∧yJ T.kx T.px T.ux=0∧vJ T.ps T.no T.h T.t=0∧iL T.kx.length T.ux=(dN T.no T.h).length then
  (if gJ (nH T (dN T.no T.h)) T.n.toNat 0<0 then 0 else 8) else 8
theorem WE {nx:List Int} {us:List Bool} {f:Int} (h:wJ nx us f=0):us.length=nx.length:=by
 unfold wJ at h;split at h
 next c=>exact c.2.2.1
 next=>cases h
theorem ab4 {ps nx:List Int} {h t:Int} (e:vJ ps nx h t=0):GY nx h=true:=by
 unfold vJ at e;split at e
 next c=>exact c.2.2.2.1
 next=>cases e
theorem agN (T:Tb) (h:uK T):CallsD Try.prog 44 [T.d] (i64 (BG T)):=by
 unfold BG
 obtain⟨hI,hK,hB,hnx,hus,hno,_⟩:=h
 have hkl:=hI.1
 by_cases c:T.sz∧wJ T.nx T.us T.fr=0∧yJ T.kx T.px T.ux=0∧vJ T.ps T.no T.h T.t=0∧iL T.kx.length T.ux=(dN T.no T.h).length
 ·rw[if_pos c]
  obtain⟨⟨s1,s2,s3,s4,s5,s6⟩,a1,a2,a3,a4⟩:=c
  have hun:=WE a1
  have hl:(dN T.no T.h).length≤200:=by
   have:=x9 (ug (ab4 a3));omega
  have a4':Jp T=false:=by unfold Jp;rw[aY];omega
  have a4'':CP T=false:=by unfold CP;rw[aY];omega
  generalize hlq:dN T.no T.h=l at *
  obtain⟨n,hn⟩:=Int.eq_ofNat_of_zero_le (by omega:0≤T.n)
  have hnn:T.n.toNat=n:=by omega
  rw[hnn]
  refine fF (b:=af Try.prog 44 0) (fun i=>jv T 0 l.length (i:Int) l) n (nH T l) (fun v=>CallsD Try.prog 44 [T.d] (i64 (if v<0 then 0 else 8))) ?_ ?_ ?_
  ·intro i hi hp σ e hr
   have n1:=ay (n:=T.us.length) (i:=i) (by omega)
   have n2:=ay (n:=T.ks.length) (i:=i) (by omega)
   have n3:=ay (n:=T.x1.length) (i:=i) (by omega)
   simp only[nH,Bool.or_eq_false_iff] at hp
   obtain⟨p1,p2,p3,p4⟩:=hp
   have sc:=dF (n:=n) hi (by omega)
   refine yE T 0 _ i l σ e ?_ ?_ ?_ ?_ ?_ ?_ ?_ ?_ ?_ ?_ ?_ ?_ ?_<;>dsimp only[At,Tr.q,RG,jf]
   ·intro _ g;rw[Int.toNat_natCast,p1] at g;cases g
   ·intro _ _ g;rw[c18,p2] at g;cases g
   ·intro _ _ _ g;rw[Int.toNat_natCast,p3] at g;cases g
   all_goals try (intro _ _ _ _ g1;rw[Int.toNat_natCast] at g1)
   all_goals try (rw[g1] at p4)
   ·intro g2;unfold Jy at g2;rw[Int.toNat_natCast,aP] at g2
    rw[if_pos rfl,decide_eq_false_iff_not] at p4;exact absurd g2 p4
   ·intro _ g2;rw[Int.toNat_natCast,g1] at g2;cases g2
   ·intro _ g2;rw[Int.toNat_natCast,g1] at g2;cases g2
   ·intro _ g2;rw[Int.toNat_natCast,g1] at g2;cases g2
   ·intro _ _;rw[sc]
    exact⟨⟨n1.1,n1.2,n3.1,n3.2,n1.1,n1.2,n1.1,n1.2,rfl,hl,n1.1,n1.2,hkl,n2.1,n2.2,trivial⟩,hr⟩
   ·intro _ g2;rw[Int.toNat_natCast,aP] at g2
    rw[if_neg (by simp),Bool.or_eq_false_iff,decide_eq_false_iff_not] at p4;exact absurd g2 p4.1
   ·intro _ _ g2;rw[z18] at g2
    rw[if_neg (by simp),Bool.or_eq_false_iff,g2] at p4;cases p4.2
   ·intro _ _ _;rw[sc]
    exact⟨⟨n3.1,n3.2,n2.1,n2.2,n1.1,n1.2,n1.1,n1.2,n1.1,n1.2,rfl,hl,n1.1,n1.2,hkl,n2.1,n2.2,trivial⟩,hr⟩
   ·intro g2;rw[Int.toNat_natCast,g1] at g2;cases g2
   ·intro g;rw[aX] at g;omega
  ·intro hr
   have c0:¬ ai .lss ((n:Nat):Int) T.n=true:=by rw[aQ];omega
   have hL:=ak (hr _ _ (yE T 0 l.length n l (jv T 0 l.length n l).abs (.exit 0) (fun g=>absurd g c0) (fun g=>absurd g c0) (fun g=>absurd g c0) (fun g=>absurd g c0) (fun g=>absurd g c0) (fun g=>absurd g c0) (fun g=>absurd g c0) (fun g=>absurd g c0) (fun g=>absurd g c0) (fun g=>absurd g c0) (fun g=>absurd g c0) (fun g=>absurd g c0) (fun _=>⟨trivial,rfl,rfl⟩)))
   refine O4 T n _ ?_ ?_ ?_ ?_ ?_ ?_ ?_ ?_ ?_ ?_ ?_<;>dsimp only[At,Tr.q,kG]
   ·intro g;rw[aQ] at g;omega
   ·intro _ g;rw[dV] at g;omega
   ·intro _ _ g;rw[aP] at g;omega
   ·intro _ _ _ g;rw[aP] at g;omega
   ·intro _ _ _ _ g;rw[aP] at g;omega
   ·intro _ _ _ _ _ g;rw[aP] at g;omega
   ·intro _ _ _ _ _ _ g;rw[aP] at g;exact absurd a1 g
   ·intro _ _ _ _ _ _ _ g;rw[aP] at g;exact absurd a2 g
   ·intro _ _ _ _ _ _ _ _ g;rw[aP] at g;exact absurd a3 g
   ·intro _ _ _ _ _ _ _ _ _ g;rw[a4'] at g;cases g
   ·intro _ _ _ _ _ _ _ _ _ _
    rw[hlq]
    exact⟨⟨hL,hkl,hno,hno,hI,hnx,trivial⟩,rfl⟩
  ·intro j hj hp hr
   have n1:=ay (n:=T.us.length) (i:=j) (by omega)
   have n2:=ay (n:=T.ks.length) (i:=j) (by omega)
   have n3:=ay (n:=T.x1.length) (i:=j) (by omega)
   have hu:Runs Try.prog (CallsD Try.prog) (.rounds (af Try.prog 44 0)) (jv T 0 l.length j l).abs .ret (jv T 8 l.length j l).abs:=by
    refine yE T 0 _ j l _ _ ?_ ?_ ?_ ?_ ?_ ?_ ?_ ?_ ?_ ?_ ?_ ?_ ?_<;>dsimp only[At,Tr.q,RG,jf]
    ·intro _ _;exact⟨⟨rfl,hl,n1.1,n1.2,hkl,n2.1,n2.2,trivial⟩,rfl,rfl⟩
    ·intro _ _ _;exact⟨⟨n1.1,n1.2,rfl,hl,n1.1,n1.2,hkl,n2.1,n2.2,trivial⟩,rfl,rfl⟩
    ·intro _ _ _ _;exact⟨⟨n1.1,n1.2,rfl,hl,n1.1,n1.2,hkl,n2.1,n2.2,trivial⟩,rfl,rfl⟩
    ·intro _ _ _ _ _ _;exact⟨⟨n3.1,n3.2,n1.1,n1.2,n1.1,n1.2,rfl,hl,n1.1,n1.2,hkl,n2.1,n2.2,trivial⟩,rfl,rfl⟩
    ·intro _ _ _ _ g1 _ g2;rw[g1] at g2;cases g2
    ·intro _ _ _ _ g1 _ g2;rw[g1] at g2;cases g2
    ·intro _ _ _ _ g1 _ g2;rw[g1] at g2;cases g2
    ·intro _ d1 d2 d3 g1 g2 _
     rw[Int.toNat_natCast] at d1 d3 g1
     rw[c18] at d2
     unfold Jy at g2;rw[Int.toNat_natCast,aY] at g2
     unfold nH at hp;rw[d1,d2,d3,Bool.false_or,Bool.false_or,Bool.false_or,if_pos g1,decide_eq_true_eq] at hp
     exact absurd g2 hp
    ·intro _ _ _ _ _ _ _;exact⟨⟨n2.1,n2.2,n1.1,n1.2,n1.1,n1.2,n1.1,n1.2,rfl,hl,n1.1,n1.2,hkl,n2.1,n2.2,trivial⟩,rfl,rfl⟩
    ·intro _ _ _ _ _ _ _ _;exact⟨⟨n3.1,n3.2,n2.1,n2.2,n1.1,n1.2,n1.1,n1.2,n1.1,n1.2,rfl,hl,n1.1,n1.2,hkl,n2.1,n2.2,trivial⟩,rfl,rfl⟩
    ·intro _ d1 d2 d3 g1 _ g2 g3
     rw[Int.toNat_natCast] at d1 d3 g1 g2
     rw[c18] at d2
     rw[aY] at g2;rw[z18] at g3
     have g3':z6 T j=true:=by simpa using g3
     unfold nH at hp;rw[d1,d2,d3,Bool.false_or,Bool.false_or,Bool.false_or,if_neg (by rw[g1];simp),g3',Bool.not_true,Bool.or_false,decide_eq_true_eq] at hp
     exact absurd g2 hp
    ·intro _ _ _ _ g1 g2;rw[g1] at g2;cases g2
    ·intro g;rw[aX] at g;omega
   refine EC T 8 j _ ?_ ?_ ?_ ?_ ?_ ?_ ?_ ?_ ?_ ?_ ?_<;>dsimp only[At,Tr.q,jQ]
   ·intro g;rw[aQ] at g;omega
   ·intro _ g;rw[dV] at g;omega
   ·intro _ _ g;rw[aP] at g;omega
   ·intro _ _ _ g;rw[aP] at g;omega
   ·intro _ _ _ _ g;rw[aP] at g;omega
   ·intro _ _ _ _ _ g;rw[aP] at g;omega
   ·intro _ _ _ _ _ _ g;rw[aP] at g;exact absurd a1 g
   ·intro _ _ _ _ _ _ _ g;rw[aP] at g;exact absurd a2 g
   ·intro _ _ _ _ _ _ _ _ g;rw[aP] at g;exact absurd a3 g
   ·intro _ _ _ _ _ _ _ _ _ g;rw[a4''] at g;cases g
   ·intro _ _ _ _ _ _ _ _ _ _
    rw[hlq]
    exact⟨⟨ak (hr _ _ hu),hkl,hno,hno,hI,hnx,trivial⟩,by rw[if_neg (by omega)]⟩
 ·rw[if_neg c]
  refine EC T 8 0 _ ?_ ?_ ?_ ?_ ?_ ?_ ?_ ?_ ?_ ?_ ?_<;>dsimp only[At,Tr.q,jQ]
  ·intro _;exact⟨trivial,rfl⟩
  ·intro _ _;exact⟨trivial,rfl⟩
  ·intro _ _ _;exact⟨trivial,rfl⟩
  ·intro _ _ _ _;exact⟨trivial,rfl⟩
  ·intro _ _ _ _ _;exact⟨trivial,rfl⟩
  ·intro _ _ _ _ _ _;exact⟨trivial,rfl⟩
  ·intro _ _ _ _ _ _ _;exact⟨⟨hnx,trivial⟩,rfl⟩
  ·intro _ _ _ _ _ _ _ _;exact⟨⟨hI,hnx,trivial⟩,rfl⟩
  ·intro _ _ _ _ _ _ _ _ _;exact⟨⟨hno,hI,hnx,trivial⟩,rfl⟩
  ·intro _ _ _ _ _ _ _ _ _ _;exact⟨⟨hkl,hno,hno,hI,hnx,trivial⟩,rfl⟩
  ·intro g1 g2 g3 g4 g5 g6 g7 g8 g9 g10
   unfold CP at g10
   rw[aX] at g1;rw[gI] at g2;rw[aY] at g3 g4 g5 g6 g7 g8 g9 g10
   exact absurd ⟨⟨by omega,by omega,g3,g4,g5,g6⟩,g7,g8,g9,by omega⟩ c
def Tb.great (T:Tb):Bool:=decide (100<T.ks.length) || (decide (100<T.x1.length) || (decide (100<T.kx.length) || (UE T.nx.length T.us.length || UE T.ps.length T.no.length)))
theorem abM (T:Tb):CallsD Try.prog 15 [T.d] (bo T.great):=by
 unfold Tb.great
 refine P8 T _ ?_ ?_ ?_ ?_ ?_<;>dsimp only[At,Tr.q,vP]
 ·intro g;rw[mr] at g;exact⟨trivial,by rw[g];rfl⟩
 ·intro g1 g;rw[mr] at g1 g;exact⟨trivial,by rw[g1,g];rfl⟩
 ·intro g1 g2 g;rw[mr] at g1 g2 g;exact⟨trivial,by rw[g1,g2,g];rfl⟩
 ·intro g1 g2 g3 g;rw[mr] at g1 g2 g3;exact⟨trivial,by rw[g1,g2,g3,g];rfl⟩
 ·intro g1 g2 g3 g;rw[mr] at g1 g2 g3;exact⟨trivial,by rw[g1,g2,g3,g];rfl⟩
def tcC:List D→Option (D×List Prop)
 |[.agg [.v (.int .i64 n), .rc [.ints .u32 ks], .rc [.ints .i64 x1, .ints .i64 x2, .ints .i64 x3, .ints .i64 x4, .ints .i64 x5, .ints .u64 x6], .rc [.ints .i64 nx], .rc [.bools us], .v (.int .i64 fr), .rc [.ints .u32 kx, .ints .i64 px, .bools ux], .rc [.ints .i64 ps], .rc [.ints .i64 no], .v (.int .i64 h), .v (.int .i64 t)]]=>some (i64 (nO ⟨n,ks,x1,x2,x3,x4,x5,x6,nx,us,fr,kx,px,ux,ps,no,h,t⟩),[uK ⟨n,ks,x1,x2,x3,x4,x5,x6,nx,us,fr,kx,px,ux,ps,no,h,t⟩])
 |_=>none
def rcC:List D→Option (D×List Prop)
 |[.agg [.v (.int .i64 n), .rc [.ints .u32 ks], .rc [.ints .i64 x1, .ints .i64 x2, .ints .i64 x3, .ints .i64 x4, .ints .i64 x5, .ints .u64 x6], .rc [.ints .i64 nx], .rc [.bools us], .v (.int .i64 fr), .rc [.ints .u32 kx, .ints .i64 px, .bools ux], .rc [.ints .i64 ps], .rc [.ints .i64 no], .v (.int .i64 h), .v (.int .i64 t)]]=>some (i64 (BG ⟨n,ks,x1,x2,x3,x4,x5,x6,nx,us,fr,kx,px,ux,ps,no,h,t⟩),[uK ⟨n,ks,x1,x2,x3,x4,x5,x6,nx,us,fr,kx,px,ux,ps,no,h,t⟩])
 |_=>none
theorem aej (args res l) (h:tcC args=some (res,l)) (hl:aI l):CallsD Try.prog 38 args res:=by
 unfold tcC at h;split at h
 ·simp only[Option.some.injEq,Prod.mk.injEq] at h
  obtain⟨rfl,rfl⟩:=h
  exact ahe _ hl.1
 ·cases h
theorem aey (args res l) (h:rcC args=some (res,l)) (hl:aI l):CallsD Try.prog 44 args res:=by
 unfold rcC at h;split at h
 ·simp only[Option.some.injEq,Prod.mk.injEq] at h
  obtain⟨rfl,rfl⟩:=h
  exact agN _ hl.1
 ·cases h
def grC:List D→Option (D×List Prop)
 |[.agg [.v (.int .i64 n), .rc [.ints .u32 ks], .rc [.ints .i64 x1, .ints .i64 x2, .ints .i64 x3, .ints .i64 x4, .ints .i64 x5, .ints .u64 x6], .rc [.ints .i64 nx], .rc [.bools us], .v (.int .i64 fr), .rc [.ints .u32 kx, .ints .i64 px, .bools ux], .rc [.ints .i64 ps], .rc [.ints .i64 no], .v (.int .i64 h), .v (.int .i64 t)]]=>some (bo (Tb.great ⟨n,ks,x1,x2,x3,x4,x5,x6,nx,us,fr,kx,px,ux,ps,no,h,t⟩),[])
 |_=>none
theorem afH (args res l) (h:grC args=some (res,l)) (hl:aI l):CallsD Try.prog 15 args res:=by
 unfold grC at h;split at h
 ·simp only[Option.some.injEq,Prod.mk.injEq] at h
  obtain⟨rfl,rfl⟩:=h
  exact abM ⟨_,_,_,_,_,_,_,_,_,_,_,_,_,_,_,_,_,_⟩
 ·cases h
def X10:aB:=aJ 38 (.call tcC) (aJ 44 (.call rcC) (aJ 15 (.call grC) X9))
theorem agU:bG Try.prog X10:=ax aej (ax aey (ax afH LX))
end TableS
end

section
namespace TableS
open Go Go.Dam Go.Proofs
set_option maxRecDepth 1000000
def OW:aB:=aJ 18 (.call vaC) (aJ 23 (.call vaC) (aJ 26 (.call bsC) (aJ 53 (.call xiC) X10)))
theorem wL:bG Try.prog OW:=ax XE (ax Y1 (ax Xa (ax Yi agU)))
end TableS
end

section
namespace TableS
open Go Go.Dam Go.Proofs
set_option maxRecDepth 1000000
noncomputable def lN:Code→List (Array Tmp×Code×Code)
 | .seq a b=>lN a ++ lN b
 | .cond _ a b=>lN a ++ lN b
 | .block _ a=>lN a
 | .loop a=>lN a
 | .rangeFunc _ ps a b=>[(ps,a,b)]
 |_=>[]
noncomputable def ckL (k:Nat):jK:=match jq Try.prog 17 with
 |some (_,c)=>match (lN c)[k]? with
  |some (ps,a,b)=>{ ps:=ps,assign:=a,body:=b,depth:=2,state:= .ready }
  |none=>{ ps:=#[],assign:= .skip,body:= .skip,depth:=0,state:= .ready }
 |none=>{ ps:=#[],assign:= .skip,body:= .skip,depth:=0,state:= .ready }
noncomputable def ZR (st:vK) (k:Nat) (Q:Pt) (T:Tb) (e c1 c2 c3 d1 d2 d3 i:Int):Cs:=⟨TT.of [(0, .yld),(1,D.ptr 131104 0),(7,rb T.us),(8,i64 T.us.length),(9,i64 i)],32,[(TT.of [(1,D.ptr 32 0),(2,D.ptr 64 0),(3,D.ptr 96 0)],104),(TT.of [],1)],
 [(32,Q.b),(64,BX.cells [i64 e] false),(96,BX.cells [i64 Q.ob,i64 Q.orr,i64 Q.op,i64 c1,i64 c2,i64 c3,i64 d1,i64 d2,i64 d3] false),(131104,T.b)],some { ckL k with state:=st },0⟩
noncomputable def qH (Q:Pt) (e c1 c2 c3 i:Int):Cs:=ZR .ready 0 Q Q.U e c1 c2 c3 Q.b2 Q.r2 Q.p2 i
noncomputable def vZ (Q:Pt) (e c1 c2 c3 d1 d2 d3 i:Int):Cs:=ZR .ready 1 Q Q.E e c1 c2 c3 d1 d2 d3 i
noncomputable def zZ (Q:Pt) (e i:Int):Cs:=⟨TT.of [(1,D.ptr 32 0),(2,D.ptr 64 0),(84,ru Q.rv),(85,i64 Q.rv.length),(86,i64 i)],104,[],[(32,Q.b),(64,BX.cells [i64 e] false)],none,0⟩
end TableS
end

section
namespace TableS
open Go Go.Dam Go.Proofs
set_option maxRecDepth 1000000
theorem aeF (Q:Pt) (er c1 c2 c3 i:Int):fG Try.prog (OW) 100000 (af Try.prog 62 0) [.d true, .d true, .c 11, .d false, .c 1] [[0,1,7,8,9],[1,2,3],[]] [(32,32),(64,64),(96,96),(131104,131104)] (qH Q er c1 c2 c3 i)=some (Ex.normal,(qH Q (er) (Q.U.x1.getD i.toNat 0) (Q.U.x2.getD i.toNat 0) (Q.U.x3.getD i.toNat 0) (aj .add .i64 i 1)),[(!(Q.ob ==Q.b0 && (Q.orr ==Q.r0 && (Q.op ==Q.p0 && true)) && (Q.U.x1.getD i.toNat 0 ==Q.b1 && (Q.U.x2.getD i.toNat 0 ==Q.r1 && (Q.U.x3.getD i.toNat 0 ==Q.p1 && true)) && (Q.b2 ==Q.b2 && (Q.r2 ==Q.r2 && (Q.p2 ==Q.p2 && true)) && true))))=false,decide (0≤i)=true,decide (i< ↑(Q.U.x1.length))=true,decide (0≤i)=true,decide (i< ↑(Q.U.ks.length))=true,Q.U.us.getD i.toNat false=true,decide (0≤i)=true,decide (i< ↑(Q.U.us.length))=true,ai .lss i ↑Q.U.us.length=true]):=by kernel_rfl
theorem aev (Q:Pt) (er c1 c2 c3 i:Int):fG Try.prog (OW) 100000 (af Try.prog 62 0) [.d true, .d true, .c 11, .d true, .c 1] [[0,1,7,8,9],[1,2,3],[]] [(32,32),(64,64),(96,96),(131104,131104)] (qH Q er c1 c2 c3 i)=some (Ex.ret,(ZR (vK.done Code.ret) 0 Q Q.U (8) (Q.U.x1.getD i.toNat 0) (Q.U.x2.getD i.toNat 0) (Q.U.x3.getD i.toNat 0) (Q.b2) (Q.r2) (Q.p2) (i)),[(!(Q.ob ==Q.b0 && (Q.orr ==Q.r0 && (Q.op ==Q.p0 && true)) && (Q.U.x1.getD i.toNat 0 ==Q.b1 && (Q.U.x2.getD i.toNat 0 ==Q.r1 && (Q.U.x3.getD i.toNat 0 ==Q.p1 && true)) && (Q.b2 ==Q.b2 && (Q.r2 ==Q.r2 && (Q.p2 ==Q.p2 && true)) && true))))=true,decide (0≤i)=true,decide (i< ↑(Q.U.x1.length))=true,decide (0≤i)=true,decide (i< ↑(Q.U.ks.length))=true,Q.U.us.getD i.toNat false=true,decide (0≤i)=true,decide (i< ↑(Q.U.us.length))=true,ai .lss i ↑Q.U.us.length=true]):=by kernel_rfl
theorem afk (Q:Pt) (er c1 c2 c3 i:Int):fG Try.prog (OW) 100000 (af Try.prog 62 0) [.d true, .d false, .c 13] [[0,1,7,8,9],[1,2,3],[]] [(32,32),(64,64),(96,96),(131104,131104)] (qH Q er c1 c2 c3 i)=some (Ex.normal,(qH Q (er) (c1) (c2) (c3) (aj .add .i64 i 1)),[Q.U.us.getD i.toNat false=false,decide (0≤i)=true,decide (i< ↑(Q.U.us.length))=true,ai .lss i ↑Q.U.us.length=true]):=by kernel_rfl
theorem adT (Q:Pt) (er c1 c2 c3 i:Int):fG Try.prog (OW) 100000 (af Try.prog 62 0) [.d false] [[0,1,7,8,9],[1,2,3],[]] [(32,32),(64,64),(96,96),(131104,131104)] (qH Q er c1 c2 c3 i)=some (Ex.exit 0,(qH Q (er) (c1) (c2) (c3) (i)),[ai .lss i ↑Q.U.us.length=false]):=by kernel_rfl
theorem adz (Q:Pt) (er c1 c2 c3 d1 d2 d3 i:Int):fG Try.prog (OW) 100000 (af Try.prog 62 0) [.d true, .d true, .c 11, .d false, .c 0, .d false, .c 1] [[0,1,7,8,9],[1,2,3],[]] [(32,32),(64,64),(96,96),(131104,131104)] (vZ Q er c1 c2 c3 d1 d2 d3 i)=some (Ex.normal,(vZ Q (er) (c1) (c2) (c3) (Q.E.x1.getD i.toNat 0) (Q.E.x2.getD i.toNat 0) (Q.E.x3.getD i.toNat 0) (aj .add .i64 i 1)),[ai .gtr (Q.E.ks.getD i.toNat 0) 65535=false,(!(Q.ob ==Q.b0 && (Q.orr ==Q.r0 && (Q.op ==Q.p0 && true)) && (c1 ==Q.b1 && (c2 ==Q.r1 && (c3 ==Q.p1 && true)) && (Q.E.x1.getD i.toNat 0 ==Q.b2 && (Q.E.x2.getD i.toNat 0 ==Q.r2 && (Q.E.x3.getD i.toNat 0 ==Q.p2 && true)) && true))))=false,decide (0≤i)=true,decide (i< ↑(Q.E.x1.length))=true,decide (0≤i)=true,decide (i< ↑(Q.E.ks.length))=true,Q.E.us.getD i.toNat false=true,decide (0≤i)=true,decide (i< ↑(Q.E.us.length))=true,ai .lss i ↑Q.E.us.length=true]):=by kernel_rfl
theorem afJ (Q:Pt) (er c1 c2 c3 d1 d2 d3 i:Int):fG Try.prog (OW) 100000 (af Try.prog 62 0) [.d true, .d true, .c 11, .d true, .c 3] [[0,1,7,8,9],[1,2,3],[]] [(32,32),(64,64),(96,96),(131104,131104)] (vZ Q er c1 c2 c3 d1 d2 d3 i)=some (Ex.ret,(ZR (vK.done Code.ret) 1 Q Q.E (8) (c1) (c2) (c3) (Q.E.x1.getD i.toNat 0) (Q.E.x2.getD i.toNat 0) (Q.E.x3.getD i.toNat 0) (i)),[(!(Q.ob ==Q.b0 && (Q.orr ==Q.r0 && (Q.op ==Q.p0 && true)) && (c1 ==Q.b1 && (c2 ==Q.r1 && (c3 ==Q.p1 && true)) && (Q.E.x1.getD i.toNat 0 ==Q.b2 && (Q.E.x2.getD i.toNat 0 ==Q.r2 && (Q.E.x3.getD i.toNat 0 ==Q.p2 && true)) && true))))=true,decide (0≤i)=true,decide (i< ↑(Q.E.x1.length))=true,decide (0≤i)=true,decide (i< ↑(Q.E.ks.length))=true,Q.E.us.getD i.toNat false=true,decide (0≤i)=true,decide (i< ↑(Q.E.us.length))=true,ai .lss i ↑Q.E.us.length=true]):=by kernel_rfl
theorem afx (Q:Pt) (er c1 c2 c3 d1 d2 d3 i:Int):fG Try.prog (OW) 100000 (af Try.prog 62 0) [.d true, .d false, .c 13] [[0,1,7,8,9],[1,2,3],[]] [(32,32),(64,64),(96,96),(131104,131104)] (vZ Q er c1 c2 c3 d1 d2 d3 i)=some (Ex.normal,(vZ Q (er) (c1) (c2) (c3) (d1) (d2) (d3) (aj .add .i64 i 1)),[Q.E.us.getD i.toNat false=false,decide (0≤i)=true,decide (i< ↑(Q.E.us.length))=true,ai .lss i ↑Q.E.us.length=true]):=by kernel_rfl
theorem aga (Q:Pt) (er c1 c2 c3 d1 d2 d3 i:Int):fG Try.prog (OW) 100000 (af Try.prog 62 0) [.d false] [[0,1,7,8,9],[1,2,3],[]] [(32,32),(64,64),(96,96),(131104,131104)] (vZ Q er c1 c2 c3 d1 d2 d3 i)=some (Ex.exit 0,(vZ Q (er) (c1) (c2) (c3) (d1) (d2) (d3) (i)),[ai .lss i ↑Q.E.us.length=false]):=by kernel_rfl
theorem aeo (Q:Pt) (er c1 c2 c3 d1 d2 d3 i:Int):fG Try.prog (OW) 100000 (af Try.prog 62 0) [.d true, .d true, .c 11, .d false, .c 0, .d true, .c 1] [[0,1,7,8,9],[1,2,3],[]] [(32,32),(64,64),(96,96),(131104,131104)] (vZ Q er c1 c2 c3 d1 d2 d3 i)=some (Ex.ret,(ZR (vK.done Code.ret) 1 Q Q.E (8) (c1) (c2) (c3) (Q.E.x1.getD i.toNat 0) (Q.E.x2.getD i.toNat 0) (Q.E.x3.getD i.toNat 0) (i)),[ai .gtr (Q.E.ks.getD i.toNat 0) 65535=true,(!(Q.ob ==Q.b0 && (Q.orr ==Q.r0 && (Q.op ==Q.p0 && true)) && (c1 ==Q.b1 && (c2 ==Q.r1 && (c3 ==Q.p1 && true)) && (Q.E.x1.getD i.toNat 0 ==Q.b2 && (Q.E.x2.getD i.toNat 0 ==Q.r2 && (Q.E.x3.getD i.toNat 0 ==Q.p2 && true)) && true))))=false,decide (0≤i)=true,decide (i< ↑(Q.E.x1.length))=true,decide (0≤i)=true,decide (i< ↑(Q.E.ks.length))=true,Q.E.us.getD i.toNat false=true,decide (0≤i)=true,decide (i< ↑(Q.E.us.length))=true,ai .lss i ↑Q.E.us.length=true]):=by kernel_rfl
noncomputable def JV (Q:Pt) (i:Int):=ai .geq (Q.rv.getD (aj .sub .i64 i 1).toNat 0) (Q.rv.getD i.toNat 0)
noncomputable def F5 (Q:Pt) (er:Int) (i:Int):Tr (Ex×Cs):= .d (ai .lss i ↑Q.rv.length) (fun e0=> .s (decide (i< ↑(Q.rv.length))=true) (.s (decide (0≤i)=true) (.d (ai .gtr i 0) (fun e1=> .p (.c 6) (.s (decide (aj .sub .i64 i 1< ↑(Q.rv.length))=true) (.s (decide (0≤aj .sub .i64 i 1)=true) (.d (JV Q i) (fun e2=> .lf (Ex.ret,(zZ Q (8) (i)))) (fun e2=> .lf (Ex.normal,(zZ Q (er) (aj .add .i64 i 1)))))))) (fun e1=> .p (.c 7) (.lf (Ex.normal,(zZ Q (er) (aj .add .i64 i 1)))))))) (fun e0=> .lf (Ex.exit 4,(zZ Q (er) (i))))
theorem ah0 (Q:Pt) (er i:Int):Leaves (bT Try.prog (OW) 100000 (af Try.prog 17 0) [[1,2,84,85,86]] [(32,32),(64,64)] (zZ Q er i)) (F5 Q er i) [] []:=by refine⟨fun _=>⟨fun _=>⟨fun _=>?_,fun _=>?_⟩,fun _=>?_⟩,fun _=>?_⟩<;>(show _=_;kernel_rfl)
theorem Ff (Q:Pt) (er:Int) (i:Int) (σ:St) (e:Ex) (h0:At (RG Try.prog (af Try.prog 17 0) e σ) (F5 Q er i) [true,true,true] True) (h1:At (RG Try.prog (af Try.prog 17 0) e σ) (F5 Q er i) [true,true,false] True) (h2:At (RG Try.prog (af Try.prog 17 0) e σ) (F5 Q er i) [true,false] True) (h3:At (RG Try.prog (af Try.prog 17 0) e σ) (F5 Q er i) [false] True):Runs Try.prog (CallsD Try.prog) (.rounds (af Try.prog 17 0)) (zZ Q er i).abs e σ:=aO (wL) (ah0 Q er i) ⟨fun e0=>⟨fun e1=>⟨fun e2=>h0 e0 e1 e2,fun e2=>h1 e0 e1 e2⟩,fun e1=>h2 e0 e1⟩,fun e0=>h3 e0⟩
noncomputable def Xi (Q:Pt) (c1 c2 c3 i:Int):=ZR (vK.done Code.ret) 0 Q Q.U 8 c1 c2 c3 Q.b2 Q.r2 Q.p2 i
noncomputable def Aw (Q:Pt) (c1:Int) (c2:Int) (c3:Int) (i:Int):Tr D:= .d (ai .geq Q.te 16) (fun e0=> .p (.c 15) (.lf (i64 8))) (fun e0=> .p (.c 2) (.d (!mQ Q.b0 Q.r0 Q.p0 Q.b1 Q.r1 Q.p1 Q.b2 Q.r2 Q.p2) (fun e1=> .p (.c 11) (.lf (i64 8))) (fun e1=> .p (.c 2) (.s (jV Q.ov) (.d (ai .neq (wM Q.ob Q.orr Q.op Q.ov Q.oq) 0) (fun e2=> .p (.c 7) (.lf (i64 8))) (fun e2=> .p (.c 2) (.s (uK Q.U) (.d (ai .neq (nO Q.U) 0) (fun e3=> .p (.c 3) (.lf (i64 8))) (fun e3=> .p (.c 2) (.s (uK Q.E) (.d (ai .neq (nO Q.E) 0) (fun e4=> .lf (i64 8)) (fun e4=> .p (.l [[0,1,7,8,9],[1,2,3],[]] [(32,32),(64,64),(96,96),(131104,131104)] (qH Q 0 Q.b1 Q.r1 Q.p1 0) Ex.ret (Xi Q c1 c2 c3 i)) (.s (Runs Try.prog (CallsD Try.prog) (.code (.loop (af Try.prog 62 0))) (qH Q 0 Q.b1 Q.r1 Q.p1 0).abs (Ex.ret) (Xi Q c1 c2 c3 i).abs) (.k ((qH Q 0 Q.b1 Q.r1 Q.p1 0=qH Q 0 Q.b1 Q.r1 Q.p1 0)) rfl (.lf (i64 8))))))))))))))))
theorem agQ (Q:Pt) (c1 c2 c3 i:Int):Leaves (fun l=>cu Try.prog (OW) 100000 l 17 [Q.d]) (Aw Q c1 c2 c3 i) [] []:=by refine⟨fun _=>?_,fun _=>⟨fun _=>?_,fun _=>⟨fun _=>?_,fun _=>⟨fun _=>?_,fun _=>⟨fun _=>?_,fun _=>?_⟩⟩⟩⟩⟩<;>(show _=_;kernel_rfl)
theorem UY (Q:Pt) (c1 c2 c3 i:Int) (res:D) (h0:At (fun r=>res=r) (Aw Q c1 c2 c3 i) [true] True) (h1:At (fun r=>res=r) (Aw Q c1 c2 c3 i) [false,true] True) (h2:At (fun r=>res=r) (Aw Q c1 c2 c3 i) [false,false,true] True) (h3:At (fun r=>res=r) (Aw Q c1 c2 c3 i) [false,false,false,true] True) (h4:At (fun r=>res=r) (Aw Q c1 c2 c3 i) [false,false,false,false,true] True) (h5:At (fun r=>res=r) (Aw Q c1 c2 c3 i) [false,false,false,false,false] True):CallsD Try.prog 17 [Q.d] res:=au (wL) (agQ Q c1 c2 c3 i) ⟨fun e0=>h0 e0,fun e0=>⟨fun e1=>h1 e0 e1,fun e1=>⟨fun e2=>h2 e0 e1 e2,fun e2=>⟨fun e3=>h3 e0 e1 e2 e3,fun e3=>⟨fun e4=>h4 e0 e1 e2 e3 e4,fun e4=>h5 e0 e1 e2 e3 e4⟩⟩⟩⟩⟩
noncomputable def Af (Q:Pt) (c1:Int) (c2:Int) (c3:Int) (d1:Int) (d2:Int) (d3:Int) (i:Int) (k:Int):Tr D:= .d (ai .geq Q.te 16) (fun e0=> .p (.c 15) (.lf (i64 8))) (fun e0=> .p (.c 2) (.d (!mQ Q.b0 Q.r0 Q.p0 Q.b1 Q.r1 Q.p1 Q.b2 Q.r2 Q.p2) (fun e1=> .p (.c 11) (.lf (i64 8))) (fun e1=> .p (.c 2) (.s (jV Q.ov) (.d (ai .neq (wM Q.ob Q.orr Q.op Q.ov Q.oq) 0) (fun e2=> .p (.c 7) (.lf (i64 8))) (fun e2=> .p (.c 2) (.s (uK Q.U) (.d (ai .neq (nO Q.U) 0) (fun e3=> .p (.c 3) (.lf (i64 8))) (fun e3=> .p (.c 2) (.s (uK Q.E) (.d (ai .neq (nO Q.E) 0) (fun e4=> .lf (i64 8)) (fun e4=> .p (.l [[0,1,7,8,9],[1,2,3],[]] [(32,32),(64,64),(96,96),(131104,131104)] (qH Q 0 Q.b1 Q.r1 Q.p1 0) (Ex.exit 0) (qH Q 0 c1 c2 c3 i)) (.p (.l [[0,1,7,8,9],[1,2,3],[]] [(32,32),(64,64),(96,96),(131104,131104)] (vZ Q 0 c1 c2 c3 Q.b2 Q.r2 Q.p2 0) Ex.ret (ZR (vK.done Code.ret) 1 Q Q.E 8 c1 c2 c3 d1 d2 d3 k)) (.s (Runs Try.prog (CallsD Try.prog) (.code (.loop (af Try.prog 62 0))) (qH Q 0 Q.b1 Q.r1 Q.p1 0).abs (Ex.exit 0) (qH Q 0 c1 c2 c3 i).abs) (.k ((qH Q 0 Q.b1 Q.r1 Q.p1 0=qH Q 0 Q.b1 Q.r1 Q.p1 0)) rfl (.s (Runs Try.prog (CallsD Try.prog) (.code (.loop (af Try.prog 62 0))) (vZ Q 0 c1 c2 c3 Q.b2 Q.r2 Q.p2 0).abs (Ex.ret) (ZR (vK.done Code.ret) 1 Q Q.E 8 c1 c2 c3 d1 d2 d3 k).abs) (.k ((vZ Q 0 c1 c2 c3 Q.b2 Q.r2 Q.p2 0=vZ Q 0 c1 c2 c3 Q.b2 Q.r2 Q.p2 0)) rfl (.lf (i64 8)))))))))))))))))))
theorem aiE (Q:Pt) (c1 c2 c3 d1 d2 d3 i k:Int):Leaves (fun l=>cu Try.prog (OW) 100000 l 17 [Q.d]) (Af Q c1 c2 c3 d1 d2 d3 i k) [] []:=by refine⟨fun _=>?_,fun _=>⟨fun _=>?_,fun _=>⟨fun _=>?_,fun _=>⟨fun _=>?_,fun _=>⟨fun _=>?_,fun _=>?_⟩⟩⟩⟩⟩<;>(show _=_;kernel_rfl)
theorem V5 (Q:Pt) (c1 c2 c3 d1 d2 d3 i k:Int) (res:D) (h0:At (fun r=>res=r) (Af Q c1 c2 c3 d1 d2 d3 i k) [true] True) (h1:At (fun r=>res=r) (Af Q c1 c2 c3 d1 d2 d3 i k) [false,true] True) (h2:At (fun r=>res=r) (Af Q c1 c2 c3 d1 d2 d3 i k) [false,false,true] True) (h3:At (fun r=>res=r) (Af Q c1 c2 c3 d1 d2 d3 i k) [false,false,false,true] True) (h4:At (fun r=>res=r) (Af Q c1 c2 c3 d1 d2 d3 i k) [false,false,false,false,true] True) (h5:At (fun r=>res=r) (Af Q c1 c2 c3 d1 d2 d3 i k) [false,false,false,false,false] True):CallsD Try.prog 17 [Q.d] res:=au (wL) (aiE Q c1 c2 c3 d1 d2 d3 i k) ⟨fun e0=>h0 e0,fun e0=>⟨fun e1=>h1 e0 e1,fun e1=>⟨fun e2=>h2 e0 e1 e2,fun e2=>⟨fun e3=>h3 e0 e1 e2 e3,fun e3=>⟨fun e4=>h4 e0 e1 e2 e3 e4,fun e4=>h5 e0 e1 e2 e3 e4⟩⟩⟩⟩⟩
noncomputable def adm (Q:Pt) (d1 d2 d3:Int):=d1 ==Q.b2 && (d2 ==Q.r2 && (d3 ==Q.p2 && true)) && true
noncomputable def adX (Q:Pt) (c1 c2 c3 d1 d2 d3:Int):=c1 ==Q.b1 && (c2 ==Q.r1 && (c3 ==Q.p1 && true)) && (adm Q d1 d2 d3)
noncomputable def Xh (Q:Pt) (c1 c2 c3 d1 d2 d3:Int):=Q.ob ==Q.b0 && (Q.orr ==Q.r0 && (Q.op ==Q.p0 && true)) && (adX Q c1 c2 c3 d1 d2 d3)
noncomputable def XT (Q:Pt) (c1 c2 c3 i:Int):=Runs Try.prog (CallsD Try.prog) (.code (.loop (af Try.prog 62 0))) (qH Q 0 Q.b1 Q.r1 Q.p1 0).abs (Ex.exit 0) (qH Q 0 c1 c2 c3 i).abs
noncomputable def Xo (Q:Pt) (c1 c2 c3 d1 d2 d3 k:Int):=Runs Try.prog (CallsD Try.prog) (.code (.loop (af Try.prog 62 0))) (vZ Q 0 c1 c2 c3 Q.b2 Q.r2 Q.p2 0).abs (Ex.exit 0) (vZ Q 0 c1 c2 c3 d1 d2 d3 k).abs
noncomputable def kU (Q:Pt) (c1:Int) (c2:Int) (c3:Int) (d1:Int) (d2:Int) (d3:Int) (i:Int) (k:Int) (j:Int):Tr D:= .d (ai .geq Q.te 16) (fun e0=> .p (.c 15) (.lf (i64 8))) (fun e0=> .p (.c 2) (.d (!mQ Q.b0 Q.r0 Q.p0 Q.b1 Q.r1 Q.p1 Q.b2 Q.r2 Q.p2) (fun e1=> .p (.c 11) (.lf (i64 8))) (fun e1=> .p (.c 2) (.s (jV Q.ov) (.d (ai .neq (wM Q.ob Q.orr Q.op Q.ov Q.oq) 0) (fun e2=> .p (.c 7) (.lf (i64 8))) (fun e2=> .p (.c 2) (.s (uK Q.U) (.d (ai .neq (nO Q.U) 0) (fun e3=> .p (.c 3) (.lf (i64 8))) (fun e3=> .p (.c 2) (.s (uK Q.E) (.d (ai .neq (nO Q.E) 0) (fun e4=> .lf (i64 8)) (fun e4=> .p (.l [[0,1,7,8,9],[1,2,3],[]] [(32,32),(64,64),(96,96),(131104,131104)] (qH Q 0 Q.b1 Q.r1 Q.p1 0) (Ex.exit 0) (qH Q 0 c1 c2 c3 i)) (.p (.l [[0,1,7,8,9],[1,2,3],[]] [(32,32),(64,64),(96,96),(131104,131104)] (vZ Q 0 c1 c2 c3 Q.b2 Q.r2 Q.p2 0) (Ex.exit 0) (vZ Q 0 c1 c2 c3 d1 d2 d3 k)) (.s (XT Q c1 c2 c3 i) (.k ((qH Q 0 Q.b1 Q.r1 Q.p1 0=qH Q 0 Q.b1 Q.r1 Q.p1 0)) rfl (.s (Xo Q c1 c2 c3 d1 d2 d3 k) (.k ((vZ Q 0 c1 c2 c3 Q.b2 Q.r2 Q.p2 0=vZ Q 0 c1 c2 c3 Q.b2 Q.r2 Q.p2 0)) rfl (.d (!(Xh Q c1 c2 c3 d1 d2 d3)) (fun e5=> .p (.c 3) (.lf (i64 8))) (fun e5=> .p (.c 2) (.d (ai .gtr (↑(Q.rv.length)) 8) (fun e6=> .lf (i64 8)) (fun e6=> .p (.l [[1,2,84,85,86]] [(32,32),(64,64)] (zZ Q 0 0) (Ex.exit 4) (zZ Q 0 j)) (.s (Runs Try.prog (CallsD Try.prog) (.code (.loop (af Try.prog 17 0))) (zZ Q 0 0).abs (Ex.exit 4) (zZ Q 0 j).abs) (.k ((zZ Q 0 0=zZ Q 0 0)) rfl (.lf (i64 0)))))))))))))))))))))))))
theorem ahA (Q:Pt) (c1 c2 c3 d1 d2 d3 i k j:Int):Leaves (fun l=>cu Try.prog (OW) 100000 l 17 [Q.d]) (kU Q c1 c2 c3 d1 d2 d3 i k j) [] []:=by refine⟨fun _=>?_,fun _=>⟨fun _=>?_,fun _=>⟨fun _=>?_,fun _=>⟨fun _=>?_,fun _=>⟨fun _=>?_,fun _=>⟨fun _=>?_,fun _=>⟨fun _=>?_,fun _=>?_⟩⟩⟩⟩⟩⟩⟩<;>(show _=_;kernel_rfl)
theorem jF (Q:Pt) (c1 c2 c3 d1 d2 d3 i k j:Int) (res:D) (h0:At (fun r=>res=r) (kU Q c1 c2 c3 d1 d2 d3 i k j) [true] True) (h1:At (fun r=>res=r) (kU Q c1 c2 c3 d1 d2 d3 i k j) [false,true] True) (h2:At (fun r=>res=r) (kU Q c1 c2 c3 d1 d2 d3 i k j) [false,false,true] True) (h3:At (fun r=>res=r) (kU Q c1 c2 c3 d1 d2 d3 i k j) [false,false,false,true] True) (h4:At (fun r=>res=r) (kU Q c1 c2 c3 d1 d2 d3 i k j) [false,false,false,false,true] True) (h5:At (fun r=>res=r) (kU Q c1 c2 c3 d1 d2 d3 i k j) [false,false,false,false,false,true] True) (h6:At (fun r=>res=r) (kU Q c1 c2 c3 d1 d2 d3 i k j) [false,false,false,false,false,false,true] True) (h7:At (fun r=>res=r) (kU Q c1 c2 c3 d1 d2 d3 i k j) [false,false,false,false,false,false,false] True):CallsD Try.prog 17 [Q.d] res:=au (wL) (ahA Q c1 c2 c3 d1 d2 d3 i k j) ⟨fun e0=>h0 e0,fun e0=>⟨fun e1=>h1 e0 e1,fun e1=>⟨fun e2=>h2 e0 e1 e2,fun e2=>⟨fun e3=>h3 e0 e1 e2 e3,fun e3=>⟨fun e4=>h4 e0 e1 e2 e3 e4,fun e4=>⟨fun e5=>h5 e0 e1 e2 e3 e4 e5,fun e5=>⟨fun e6=>h6 e0 e1 e2 e3 e4 e5 e6,fun e6=>h7 e0 e1 e2 e3 e4 e5 e6⟩⟩⟩⟩⟩⟩⟩
noncomputable def aeu (Q:Pt) (d1 d2 d3:Int):=d1 ==Q.b2 && (d2 ==Q.r2 && (d3 ==Q.p2 && true)) && true
noncomputable def aeg (Q:Pt) (c1 c2 c3 d1 d2 d3:Int):=c1 ==Q.b1 && (c2 ==Q.r1 && (c3 ==Q.p1 && true)) && (aeu Q d1 d2 d3)
noncomputable def Zu (Q:Pt) (c1 c2 c3 d1 d2 d3:Int):=Q.ob ==Q.b0 && (Q.orr ==Q.r0 && (Q.op ==Q.p0 && true)) && (aeg Q c1 c2 c3 d1 d2 d3)
noncomputable def XD (Q:Pt) (c1 c2 c3 i:Int):=Runs Try.prog (CallsD Try.prog) (.code (.loop (af Try.prog 62 0))) (qH Q 0 Q.b1 Q.r1 Q.p1 0).abs (Ex.exit 0) (qH Q 0 c1 c2 c3 i).abs
noncomputable def Xw (Q:Pt) (c1 c2 c3 d1 d2 d3 k:Int):=Runs Try.prog (CallsD Try.prog) (.code (.loop (af Try.prog 62 0))) (vZ Q 0 c1 c2 c3 Q.b2 Q.r2 Q.p2 0).abs (Ex.exit 0) (vZ Q 0 c1 c2 c3 d1 d2 d3 k).abs
noncomputable def uN (Q:Pt) (c1:Int) (c2:Int) (c3:Int) (d1:Int) (d2:Int) (d3:Int) (i:Int) (k:Int) (j:Int):Tr D:= .d (ai .geq Q.te 16) (fun e0=> .p (.c 15) (.lf (i64 8))) (fun e0=> .p (.c 2) (.d (!mQ Q.b0 Q.r0 Q.p0 Q.b1 Q.r1 Q.p1 Q.b2 Q.r2 Q.p2) (fun e1=> .p (.c 11) (.lf (i64 8))) (fun e1=> .p (.c 2) (.s (jV Q.ov) (.d (ai .neq (wM Q.ob Q.orr Q.op Q.ov Q.oq) 0) (fun e2=> .p (.c 7) (.lf (i64 8))) (fun e2=> .p (.c 2) (.s (uK Q.U) (.d (ai .neq (nO Q.U) 0) (fun e3=> .p (.c 3) (.lf (i64 8))) (fun e3=> .p (.c 2) (.s (uK Q.E) (.d (ai .neq (nO Q.E) 0) (fun e4=> .lf (i64 8)) (fun e4=> .p (.l [[0,1,7,8,9],[1,2,3],[]] [(32,32),(64,64),(96,96),(131104,131104)] (qH Q 0 Q.b1 Q.r1 Q.p1 0) (Ex.exit 0) (qH Q 0 c1 c2 c3 i)) (.p (.l [[0,1,7,8,9],[1,2,3],[]] [(32,32),(64,64),(96,96),(131104,131104)] (vZ Q 0 c1 c2 c3 Q.b2 Q.r2 Q.p2 0) (Ex.exit 0) (vZ Q 0 c1 c2 c3 d1 d2 d3 k)) (.s (XD Q c1 c2 c3 i) (.k ((qH Q 0 Q.b1 Q.r1 Q.p1 0=qH Q 0 Q.b1 Q.r1 Q.p1 0)) rfl (.s (Xw Q c1 c2 c3 d1 d2 d3 k) (.k ((vZ Q 0 c1 c2 c3 Q.b2 Q.r2 Q.p2 0=vZ Q 0 c1 c2 c3 Q.b2 Q.r2 Q.p2 0)) rfl (.d (!(Zu Q c1 c2 c3 d1 d2 d3)) (fun e5=> .p (.c 3) (.lf (i64 8))) (fun e5=> .p (.c 2) (.d (ai .gtr (↑(Q.rv.length)) 8) (fun e6=> .lf (i64 8)) (fun e6=> .p (.l [[1,2,84,85,86]] [(32,32),(64,64)] (zZ Q 0 0) Ex.ret (zZ Q 8 j)) (.s (Runs Try.prog (CallsD Try.prog) (.code (.loop (af Try.prog 17 0))) (zZ Q 0 0).abs (Ex.ret) (zZ Q 8 j).abs) (.k ((zZ Q 0 0=zZ Q 0 0)) rfl (.lf (i64 8)))))))))))))))))))))))))
theorem ahV (Q:Pt) (c1 c2 c3 d1 d2 d3 i k j:Int):Leaves (fun l=>cu Try.prog (OW) 100000 l 17 [Q.d]) (uN Q c1 c2 c3 d1 d2 d3 i k j) [] []:=by refine⟨fun _=>?_,fun _=>⟨fun _=>?_,fun _=>⟨fun _=>?_,fun _=>⟨fun _=>?_,fun _=>⟨fun _=>?_,fun _=>⟨fun _=>?_,fun _=>⟨fun _=>?_,fun _=>?_⟩⟩⟩⟩⟩⟩⟩<;>(show _=_;kernel_rfl)
theorem VG (Q:Pt) (c1 c2 c3 d1 d2 d3 i k j:Int) (res:D) (h0:At (fun r=>res=r) (uN Q c1 c2 c3 d1 d2 d3 i k j) [true] True) (h1:At (fun r=>res=r) (uN Q c1 c2 c3 d1 d2 d3 i k j) [false,true] True) (h2:At (fun r=>res=r) (uN Q c1 c2 c3 d1 d2 d3 i k j) [false,false,true] True) (h3:At (fun r=>res=r) (uN Q c1 c2 c3 d1 d2 d3 i k j) [false,false,false,true] True) (h4:At (fun r=>res=r) (uN Q c1 c2 c3 d1 d2 d3 i k j) [false,false,false,false,true] True) (h5:At (fun r=>res=r) (uN Q c1 c2 c3 d1 d2 d3 i k j) [false,false,false,false,false,true] True) (h6:At (fun r=>res=r) (uN Q c1 c2 c3 d1 d2 d3 i k j) [false,false,false,false,false,false,true] True) (h7:At (fun r=>res=r) (uN Q c1 c2 c3 d1 d2 d3 i k j) [false,false,false,false,false,false,false] True):CallsD Try.prog 17 [Q.d] res:=au (wL) (ahV Q c1 c2 c3 d1 d2 d3 i k j) ⟨fun e0=>h0 e0,fun e0=>⟨fun e1=>h1 e0 e1,fun e1=>⟨fun e2=>h2 e0 e1 e2,fun e2=>⟨fun e3=>h3 e0 e1 e2 e3,fun e3=>⟨fun e4=>h4 e0 e1 e2 e3 e4,fun e4=>⟨fun e5=>h5 e0 e1 e2 e3 e4 e5,fun e5=>⟨fun e6=>h6 e0 e1 e2 e3 e4 e5 e6,fun e6=>h7 e0 e1 e2 e3 e4 e5 e6⟩⟩⟩⟩⟩⟩⟩
end TableS
end

section
namespace TableS
open Go Go.Dam Go.Proofs
set_option maxRecDepth 1000000
def Gj (Q:Pt) (c1 c2 c3 d1 d2 d3:Int):Bool:=Q.ob ==Q.b0 && (Q.orr ==Q.r0 && (Q.op ==Q.p0 && true)) && (c1 ==Q.b1 && (c2 ==Q.r1 && (c3 ==Q.p1 && true)) && (d1 ==Q.b2 && (d2 ==Q.r2 && (d3 ==Q.p2 && true)) && true))
theorem Lc {Q:Pt} {c1 c2 c3 d1 d2 d3:Int} (h:Gj Q c1 c2 c3 d1 d2 d3=true):(Q.ob=Q.b0∧Q.orr=Q.r0∧Q.op=Q.p0)∧(c1=Q.b1∧c2=Q.r1∧c3=Q.p1)∧d1=Q.b2∧d2=Q.r2∧d3=Q.p2:=by
 simp only[Gj,Bool.and_eq_true,beq_iff_eq,and_true] at h
 exact h
def uP (Q:Pt) (i:Nat):Bool:=Q.U.us.getD i false && !Gj Q (Q.U.x1.getD i 0) (Q.U.x2.getD i 0) (Q.U.x3.getD i 0) Q.b2 Q.r2 Q.p2
def eP (Q:Pt) (i:Nat):Bool:=Q.E.us.getD i false && ((!Gj Q Q.b1 Q.r1 Q.p1 (Q.E.x1.getD i 0) (Q.E.x2.getD i 0) (Q.E.x3.getD i 0)) || ai .gtr (Q.E.ks.getD i 0) 65535)
theorem aa8 (Q:Pt) (h:ZU Q.U):
  ((∀ i,i<Q.U.us.length→uP Q i=false)∧Runs Try.prog (CallsD Try.prog) (.code (.loop (af Try.prog 62 0))) (qH Q 0 Q.b1 Q.r1 Q.p1 0).abs (.exit 0) (qH Q 0 Q.b1 Q.r1 Q.p1 Q.U.us.length).abs)∨
  ((∃ i,i<Q.U.us.length∧uP Q i=true)∧∃ c1 c2 c3 i,Runs Try.prog (CallsD Try.prog) (.code (.loop (af Try.prog 62 0))) (qH Q 0 Q.b1 Q.r1 Q.p1 0).abs .ret (ZR (vK.done Code.ret) 0 Q Q.U 8 c1 c2 c3 Q.b2 Q.r2 Q.p2 i).abs):=by
 obtain⟨h1,h2,h3,h4⟩:=h
 have step:∀ i,i<Q.U.us.length→uP Q i=false→∀ (σ:St) (e:Ex),Runs Try.prog (CallsD Try.prog) (.rounds (af Try.prog 62 0)) (qH Q 0 Q.b1 Q.r1 Q.p1 ((i+1:Nat):Int)).abs e σ→Runs Try.prog (CallsD Try.prog) (.rounds (af Try.prog 62 0)) (qH Q 0 Q.b1 Q.r1 Q.p1 (i:Int)).abs e σ:=fun i hi hp σ e hr=>by
  have ix:i<Q.U.x1.length:=by omega
  have ik:i<Q.U.ks.length:=by omega
  have hl:ai .lss (i:Int) (Q.U.us.length:Int)=true:=by rw[aQ];omega
  rw[←dF hi h1] at hr
  cases hu:Q.U.us.getD i false with
  |true=>
   have g:Gj Q (Q.U.x1.getD i 0) (Q.U.x2.getD i 0) (Q.U.x3.getD i 0) Q.b2 Q.r2 Q.p2=true:=by
    unfold uP at hp;rw[hu] at hp;simpa using hp
   obtain⟨_,⟨a1,a2,a3⟩,_⟩:=Lc g
   refine iI wL (aeF Q 0 Q.b1 Q.r1 Q.p1 i) ⟨?_,(ay ix).1,(ay ix).2,(ay ik).1,(ay ik).2,hu,(ay hi).1,(ay hi).2,hl,trivial⟩ ?_
   ·show(!Gj Q (Q.U.x1.getD i 0) (Q.U.x2.getD i 0) (Q.U.x3.getD i 0) Q.b2 Q.r2 Q.p2)=false
    rw[g];rfl
   ·rw[Int.toNat_natCast,a1,a2,a3];exact hr
  |false=>exact iI wL (afk Q 0 Q.b1 Q.r1 Q.p1 i) ⟨hu,(ay hi).1,(ay hi).2,hl,trivial⟩ hr
 by_cases hx:∃ j,0≤j∧j<Q.U.us.length∧¬ uP Q j=false
 ·obtain⟨j,_,j1,j2,_,j4⟩:=jZ (fun i=>qH Q 0 Q.b1 Q.r1 Q.p1 (i:Int)) Q.U.us.length (fun i=>uP Q i=false) step Q.U.us.length 0 (by omega) hx
  have hp:uP Q j=true:=by simpa using j2
  have ix:j<Q.U.x1.length:=by omega
  have ik:j<Q.U.ks.length:=by omega
  have hl:ai .lss (j:Int) (Q.U.us.length:Int)=true:=by rw[aQ];omega
  have hu:Q.U.us.getD j false=true:=by unfold uP at hp;rw[Bool.and_eq_true] at hp;exact hp.1
  have g:(!Gj Q (Q.U.x1.getD j 0) (Q.U.x2.getD j 0) (Q.U.x3.getD j 0) Q.b2 Q.r2 Q.p2)=true:=by unfold uP at hp;rw[Bool.and_eq_true] at hp;exact hp.2
  exact .inr ⟨⟨j,j1,hp⟩,_,_,_,_,ak (j4 _ _ (iW wL (aev Q 0 Q.b1 Q.r1 Q.p1 j) ⟨g,(ay ix).1,(ay ix).2,(ay ik).1,(ay ik).2,hu,(ay j1).1,(ay j1).2,hl,trivial⟩ (by simp) ⟨rfl,rfl⟩))⟩
 ·have hf:∀ i,i<Q.U.us.length→uP Q i=false:=fun i hi=>by
   cases e:uP Q i with
   |false=>rfl
   |true=>exact absurd ⟨i,by omega,hi,by simp[e]⟩ hx
  refine .inl ⟨hf,ak ?_⟩
  exact dS (fun i=>qH Q 0 Q.b1 Q.r1 Q.p1 (i:Int)) Q.U.us.length (fun i=>uP Q i=false) step (iW wL (adT Q 0 Q.b1 Q.r1 Q.p1 Q.U.us.length) ⟨by rw[aX];omega,trivial⟩ (by simp) ⟨rfl,rfl⟩) Q.U.us.length 0 (by omega) (fun j _ hj=>hf j hj)
theorem aaR (Q:Pt) (h:ZU Q.E):
  ((∀ i,i<Q.E.us.length→eP Q i=false)∧Runs Try.prog (CallsD Try.prog) (.code (.loop (af Try.prog 62 0))) (vZ Q 0 Q.b1 Q.r1 Q.p1 Q.b2 Q.r2 Q.p2 0).abs (.exit 0) (vZ Q 0 Q.b1 Q.r1 Q.p1 Q.b2 Q.r2 Q.p2 Q.E.us.length).abs)∨
  ((∃ i,i<Q.E.us.length∧eP Q i=true)∧∃ d1 d2 d3 i,Runs Try.prog (CallsD Try.prog) (.code (.loop (af Try.prog 62 0))) (vZ Q 0 Q.b1 Q.r1 Q.p1 Q.b2 Q.r2 Q.p2 0).abs .ret (ZR (vK.done Code.ret) 1 Q Q.E 8 Q.b1 Q.r1 Q.p1 d1 d2 d3 i).abs):=by
 obtain⟨h1,h2,h3,h4⟩:=h
 have step:∀ i,i<Q.E.us.length→eP Q i=false→∀ (σ:St) (e:Ex),Runs Try.prog (CallsD Try.prog) (.rounds (af Try.prog 62 0)) (vZ Q 0 Q.b1 Q.r1 Q.p1 Q.b2 Q.r2 Q.p2 ((i+1:Nat):Int)).abs e σ→Runs Try.prog (CallsD Try.prog) (.rounds (af Try.prog 62 0)) (vZ Q 0 Q.b1 Q.r1 Q.p1 Q.b2 Q.r2 Q.p2 (i:Int)).abs e σ:=fun i hi hp σ e hr=>by
  have ix:i<Q.E.x1.length:=by omega
  have ik:i<Q.E.ks.length:=by omega
  have hl:ai .lss (i:Int) (Q.E.us.length:Int)=true:=by rw[aQ];omega
  rw[←dF hi h1] at hr
  cases hu:Q.E.us.getD i false with
  |true=>
   unfold eP at hp;rw[hu,Bool.true_and,Bool.or_eq_false_iff] at hp
   have g:Gj Q Q.b1 Q.r1 Q.p1 (Q.E.x1.getD i 0) (Q.E.x2.getD i 0) (Q.E.x3.getD i 0)=true:=by simpa using hp.1
   obtain⟨_,_,a1,a2,a3⟩:=Lc g
   refine iI wL (adz Q 0 Q.b1 Q.r1 Q.p1 Q.b2 Q.r2 Q.p2 i) ⟨?_,?_,(ay ix).1,(ay ix).2,(ay ik).1,(ay ik).2,hu,(ay hi).1,(ay hi).2,hl,trivial⟩ ?_
   ·exact hp.2
   ·show(!Gj Q Q.b1 Q.r1 Q.p1 (Q.E.x1.getD i 0) (Q.E.x2.getD i 0) (Q.E.x3.getD i 0))=false
    rw[g];rfl
   ·rw[Int.toNat_natCast,a1,a2,a3];exact hr
  |false=>exact iI wL (afx Q 0 Q.b1 Q.r1 Q.p1 Q.b2 Q.r2 Q.p2 i) ⟨hu,(ay hi).1,(ay hi).2,hl,trivial⟩ hr
 by_cases hx:∃ j,0≤j∧j<Q.E.us.length∧¬ eP Q j=false
 ·obtain⟨j,_,j1,j2,_,j4⟩:=jZ (fun i=>vZ Q 0 Q.b1 Q.r1 Q.p1 Q.b2 Q.r2 Q.p2 (i:Int)) Q.E.us.length (fun i=>eP Q i=false) step Q.E.us.length 0 (by omega) hx
  have hp:eP Q j=true:=by simpa using j2
  have ix:j<Q.E.x1.length:=by omega
  have ik:j<Q.E.ks.length:=by omega
  have hl:ai .lss (j:Int) (Q.E.us.length:Int)=true:=by rw[aQ];omega
  have hu:Q.E.us.getD j false=true:=by unfold eP at hp;rw[Bool.and_eq_true] at hp;exact hp.1
  refine .inr ⟨⟨j,j1,hp⟩,?_⟩
  cases g:(!Gj Q Q.b1 Q.r1 Q.p1 (Q.E.x1.getD j 0) (Q.E.x2.getD j 0) (Q.E.x3.getD j 0)) with
  |true=>exact⟨_,_,_,_,ak (j4 _ _ (iW wL (afJ Q 0 Q.b1 Q.r1 Q.p1 Q.b2 Q.r2 Q.p2 j) ⟨g,(ay ix).1,(ay ix).2,(ay ik).1,(ay ik).2,hu,(ay j1).1,(ay j1).2,hl,trivial⟩ (by simp) ⟨rfl,rfl⟩))⟩
  |false=>
   have k:ai .gtr (Q.E.ks.getD j 0) 65535=true:=by unfold eP at hp;rw[g,hu] at hp;simpa using hp
   exact⟨_,_,_,_,ak (j4 _ _ (iW wL (aeo Q 0 Q.b1 Q.r1 Q.p1 Q.b2 Q.r2 Q.p2 j) ⟨k,g,(ay ix).1,(ay ix).2,(ay ik).1,(ay ik).2,hu,(ay j1).1,(ay j1).2,hl,trivial⟩ (by simp) ⟨rfl,rfl⟩))⟩
 ·have hf:∀ i,i<Q.E.us.length→eP Q i=false:=fun i hi=>by
   cases e:eP Q i with
   |false=>rfl
   |true=>exact absurd ⟨i,by omega,hi,by simp[e]⟩ hx
  refine .inl ⟨hf,ak ?_⟩
  exact dS (fun i=>vZ Q 0 Q.b1 Q.r1 Q.p1 Q.b2 Q.r2 Q.p2 (i:Int)) Q.E.us.length (fun i=>eP Q i=false) step (iW wL (aga Q 0 Q.b1 Q.r1 Q.p1 Q.b2 Q.r2 Q.p2 Q.E.us.length) ⟨by rw[aX];omega,trivial⟩ (by simp) ⟨rfl,rfl⟩) Q.E.us.length 0 (by omega) (fun j _ hj=>hf j hj)
end TableS
end

section
namespace TableS
open Go Go.Dam Go.Proofs
set_option maxRecDepth 1000000
theorem Oc (xs:List Int) (zs:List Bool) (k:Int):∀ (d i n:Nat),i<16→∃ s,s≤d∧(RH xs zs k d i n).1=(i+s)%16∧
  (∀ t,t<s→zs.getD ((i+t)%16) false=true∧xs.getD ((i+t)%16) 0≠k)∧(s<d→¬ (zs.getD ((i+s)%16) false=true∧xs.getD ((i+s)%16) 0≠k))
 |0,i,n,h=>⟨0,Nat.le_refl _,by simp only[RH];rw[Nat.add_zero,Nat.mod_eq_of_lt h],fun t ht=>by omega,fun h=>by omega⟩
 |d+1,i,n,h=>by
  simp only[RH]
  split
  next c=>
   obtain⟨s,h1,h2,h3,h4⟩:=Oc xs zs k d ((i+1)%16) (n+1) (by omega)
   refine⟨s+1,by omega,by rw[h2];omega,fun t ht=>?_,fun hs=>?_⟩
   ·rcases t with _ | t
    ·rw[Nat.add_zero,Nat.mod_eq_of_lt h];exact c
    ·have:=h3 t (by omega)
     rwa[show((i+1)%16+t)%16=(i+(t+1))%16 by omega] at this
   ·have:=h4 (by omega)
    rwa[show((i+1)%16+s)%16=(i+(s+1))%16 by omega] at this
  next c=>
   refine⟨0,by omega,by rw[Nat.add_zero,Nat.mod_eq_of_lt h],fun t ht=>by omega,fun _=>?_⟩
   rw[Nat.add_zero,Nat.mod_eq_of_lt h];exact c
theorem xB {xs:List Int} {zs:List Bool} {k:Int} (hk:vk k) (hf:∃ j,j<16∧zs.getD j false=false):∃ s,s<16∧oP xs zs k=((dn k).toNat+s)%16∧
  (∀ t,t<s→zs.getD (((dn k).toNat+t)%16) false=true∧xs.getD (((dn k).toNat+t)%16) 0≠k)∧¬ (zs.getD (oP xs zs k) false=true∧xs.getD (oP xs zs k) 0≠k):=by
 have hh:=mg hk
 obtain⟨s,h1,h2,h3,h4⟩:=Oc xs zs k 16 (dn k).toNat 0 (by omega)
 obtain⟨j,hj,hz⟩:=hf
 have hs:s<16:=by
  rcases Nat.lt_or_ge s 16 with c | c
  ·exact c
  ·have:=(h3 ((j+16 - (dn k).toNat)%16) (by omega)).1
   rw[show((dn k).toNat+(j+16 - (dn k).toNat)%16)%16=j by omega,hz] at this;cases this
 have e:oP xs zs k=((dn k).toNat+s)%16:=h2
 refine⟨s,hs,e,h3,?_⟩
 rw[e];exact h4 hs
theorem oh:∀ {L M:List Nat},L.Nodup→(∀ x∈L,x∈M)→L.length≤M.length
 |[],M,_,_=>by simp
 |x::L,M,h,hm=>by
  rw[List.nodup_cons] at h
  have hx:=hm x (by simp)
  have ih:=oh (L:=L) (M:=M.erase x) h.2 fun y hy=>(List.mem_erase_of_ne (fun e:y=x=>h.1 (by rw[←e];exact hy))).2 (hm y (by simp[hy]))
  rw[List.length_erase_of_mem hx] at ih
  have:0<M.length:=List.length_pos_of_mem hx
  simp only[List.length_cons];omega
theorem lQ (zs:List Bool):∀ n,iL n zs=((List.range n).filter fun i=>zs.getD i false).length
 |0=>rfl
 |n+1=>by
  have ih:=lQ zs n
  simp only[iL,cnt] at *
  rw[List.range_succ,List.filter_append,List.length_append,←ih]
  have:(List.filter (fun i=>zs.getD i false) [n]).length=bif zs.getD n false then 1 else 0:=by
   simp only[List.filter_cons];cases zs.getD n false<;>rfl
  rw[this]
theorem Py {T:Tb} (h:nO T=0):T.sz∧OZ T.nx T.us T.fr=0∧BR T.kx T.px T.ux=0∧Eg T.ps T.no T.h T.t=0∧
  (∀ i,i<T.us.length→nI T (qG T.ps T.no T.h T.t) i=false)∧iL T.us.length T.us=iL T.kx.length T.ux:=by
 unfold nO at h;split at h
 next c=>
  split at h
  next d=>exact⟨c.1,c.2.1,c.2.2.1,c.2.2.2,fun i hi=>(dM _ 0).1 d.1 i (by omega) (by omega),d.2⟩
  next=>cases h
 next=>cases h
theorem tu {α β:Type} {f:α→β}:∀ {L:List α},L.Nodup→(∀ x∈L,∀ y∈L,f x=f y→x=y)→(L.map f).Nodup
 |[],_,_=>by simp
 |a::L,h,hi=>by
  rw[List.nodup_cons] at h
  rw[List.map_cons,List.nodup_cons]
  refine⟨fun hm=>?_,tu h.2 fun x hx y hy e=>hi x (by simp[hx]) y (by simp[hy]) e⟩
  obtain⟨y,hy,e⟩:=List.mem_map.1 hm
  have:=hi y (by simp[hy]) a (by simp) e
  exact h.1 (this▸hy)
theorem Yu {T:Tb} (ho:uK T) (h:nO T=0) {j:Nat} (hj:j<16) (hu:T.ux.getD j false=true):
  ∃ i:Nat,(i:Int)<T.n∧T.us.getD i false=true∧T.px.getD j 0=i∧T.kx.getD j 0=T.ks.getD i 0∧oP T.kx T.ux (T.ks.getD i 0)=j:=by
 obtain⟨⟨s1,s2,s3,s4,s5,s6⟩,a1,a2,a3,a4,a5⟩:=Py h
 obtain⟨b1,b2,b3⟩:=JC a2
 have hun:=Jw a1
 have hfree:=lY (ux:=T.ux) (n:=16) (by omega)
 let c:Nat→Nat:=fun i=>oP T.kx T.ux (T.ks.getD i 0)
 have hc:∀ i,i<T.us.length→T.us.getD i false=true→c i<16∧T.ux.getD (c i) false=true∧T.px.getD (c i) 0=i∧T.kx.getD (c i) 0=T.ks.getD i 0:=fun i hi hui=>by
  have hk:=ho.2.1 i (by omega)
  have hb:=a4 i hi
  simp only[nI,Bool.or_eq_false_iff,hui,if_true,decide_eq_false_iff_not,not_or,ne_eq,Decidable.not_not] at hb
  obtain⟨_,e1,e2,_⟩:=hb
  have hl:=Qs (kx:=T.kx) T.ux hk
  obtain⟨s,_,_,_,hs⟩:=xB (xs:=T.kx) hk hfree
  unfold U4 at e1;rw[if_pos a2] at e1
  unfold U3 at e2;rw[if_pos a2] at e2
  by_cases d:T.ux.getD (oP T.kx T.ux (T.ks.getD i 0)) false=true
  ·rw[if_pos d] at e2
   exact⟨hl,d,e2,Decidable.not_not.1 fun n=>hs ⟨d,n⟩⟩
  ·rw[if_neg d] at e1;cases e1
 let U:=(List.range T.us.length).filter fun i=>T.us.getD i false
 have hU:∀ i,i∈U↔i<T.us.length∧T.us.getD i false=true:=fun i=>by simp[U]
 have hnd:U.Nodup:=List.nodup_range.sublist List.filter_sublist
 have himg:(U.map c).Nodup:=tu hnd fun x hx y hy e=>by
  have h1:=(hc x ((hU x).1 hx).1 ((hU x).1 hx).2).2.2.1
  have h2:=(hc y ((hU y).1 hy).1 ((hU y).1 hy).2).2.2.1
  rw[e,h2] at h1;omega
 have hlen:U.length=iL 16 T.ux:=by
  have:=lQ T.us T.us.length
  rw[a5,b1] at this;exact this.symm
 by_cases hm:j∈U.map c
 ·obtain⟨i,hi,rfl⟩:=List.mem_map.1 hm
  obtain⟨h1,h2⟩:=(hU i).1 hi
  have:=hc i h1 h2
  exact⟨i,by omega,h2,this.2.2.1,this.2.2.2,rfl⟩
 ·exfalso
  have hle:=oh (L:=j::U.map c) (M:=(List.range 16).filter fun i=>T.ux.getD i false) (List.nodup_cons.2 ⟨hm,himg⟩) (fun x hx=>by
   rw[List.mem_filter,List.mem_range]
   rcases List.mem_cons.1 hx with rfl | hx
   ·exact⟨hj,hu⟩
   ·obtain⟨i,hi,rfl⟩:=List.mem_map.1 hx
    obtain⟨h1,h2⟩:=(hU i).1 hi
    have:=hc i h1 h2
    exact⟨this.1,this.2.1⟩)
  rw[←lQ,List.length_cons,List.length_map,hlen] at hle
  omega
end TableS
end

section
namespace TableS
open Go Go.Dam Go.Proofs
set_option maxRecDepth 1000000
def plV (T:Tb) (k:Int):Int:=if U4 T.kx T.px T.ux k=0 then U3 T.kx T.px T.ux k else -1
abbrev Tb.o (T:Tb):D:= .agg [i64 T.n,ou T.ks,kco T.x1 T.x2 T.x3 T.x4 T.x5 T.x6,oi T.nx,ob T.us,i64 T.fr,cco T.kx T.px T.ux,oi T.ps,oi T.no,i64 T.h,i64 T.t]
def t0:Tb:=⟨0,[],[],[],[],[],[],[],[],[],0,[],[],[],[],[],0,0⟩
def Tb.put (T:Tb) (i:Nat) (b r p v q a:Int):Tb:={ T with x1:=T.x1.set i b,x2:=T.x2.set i r,x3:=T.x3.set i p,x4:=T.x4.set i v,x5:=T.x5.set i q,x6:=T.x6.set i a }
theorem aaS:kV (D.agg [i64 0,D.v (Value.slice none 0 0),D.v (Value.slice none 0 0),D.v (Value.slice none 0 0),D.v (Value.slice none 0 0),i64 0,D.v (Value.slice none 0 0),D.v (Value.slice none 0 0),D.v (Value.slice none 0 0),i64 0,i64 0]) t0.o:=
 bM.agg (.cons (.refl _) (.cons (.nil rfl) (.cons (.nil rfl) (.cons (.nil rfl) (.cons (.nil rfl) (.cons (.refl _) (.cons (.nil rfl) (.cons (.nil rfl) (.cons (.nil rfl) (.refl _))))))))))
theorem abl {T:Tb} (h:nO T=0):qG T.ps T.no T.h T.t=dN T.no T.h∧Lu T.n.toNat (dN T.no T.h):=by
 obtain⟨⟨s1,s2,s3,s4,s5,s6⟩,a1,a2,a3,_⟩:=Py h
 have ho:=yj (uw _) (y7 a3)
 obtain⟨_,_,c3,_⟩:=JZ a3
 refine⟨by unfold qG;rw[if_pos a3],?_⟩
 rw[show T.n.toNat=T.no.length by omega];exact ho
def X11:aB:=X10
theorem ajt:bG Try.prog X11:=agU
end TableS
end
