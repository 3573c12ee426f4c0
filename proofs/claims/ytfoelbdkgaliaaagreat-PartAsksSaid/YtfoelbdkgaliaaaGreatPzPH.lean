/- What the functions compute, and the law. No condition. -/
import Derived.Test.YtfoelbdkgaliaaaGreatDamYA
import Derived.KernelRfl
import Derived.Test.YtfoelbdkgaliaaaGreatProg
set_option linter.unusedSectionVars false
set_option linter.unusedVariables false
set_option linter.unusedSimpArgs false
noncomputable section
namespace Go.Dam
open Go
variable [iG]
@[reducible] noncomputable def Pg:Program:=Go.Proofs.Tryz.prog
abbrev Kl (f:FuncId) (a:List D) (r:D):Prop:=CallsD Pg f a r
abbrev Rn (f k:Nat) (c:St) (e:Ex) (s:St):Prop:=Runs Pg (CallsD Pg) (.rounds (dh Pg f k)) c e s
abbrev Rl (f k:Nat) (c:St) (e:Ex) (s:St):Prop:=Runs Pg (CallsD Pg) (.code (.loop (dh Pg f k))) c e s
abbrev Rg (f k:Nat) (e:Ex) (s:St) (t:Tr (Ex×Cs)) (q:List Bool):Prop:=At (RG Pg (dh Pg f k) e s) t q True
theorem fA {X:aB} (hX:bT Pg X) (t:Tr D) {f:FuncId} {args:List D} {res:D} (g:Goals (fun r=>res=r) t True)
  (h:Leaves (fun l=>iY Pg X 100000 l f args) t [] []:=by(repeat' refine⟨fun _=>?_,fun _=>?_⟩)<;>(show _=_;kernel_rfl)):CallsD Pg f args res:=XT hX h g
theorem qH {X:aB} (hX:bT Pg X) {f k:Nat} (keep:List (List Nat)) (ren:List (Nat×Nat)) (t:Tr (Ex×Cs)) {c:Cs} {s:St} {e:Ex} (g:Goals (RG Pg (dh Pg f k) e s) t True)
  (h:Leaves (WB Pg X 100000 (dh Pg f k) keep ren c) t [] []:=by(repeat' refine⟨fun _=>?_,fun _=>?_⟩)<;>(show _=_;kernel_rfl)):Runs Pg (CallsD Pg) (.rounds (dh Pg f k)) c.abs e s:=Rk hX h g
end Go.Dam
end
noncomputable section
namespace TableS
open Go Go.Dam Go.Proofs
set_option maxRecDepth 1000000
abbrev i64 (n:Int):D:= .v (.int .i64 n)
abbrev u64 (n:Int):D:= .v (.int .u64 n)
abbrev u32 (n:Int):D:= .v (.int .u32 n)
abbrev bo (b:Bool):D:= .v (.bool b)
abbrev ri (xs:List Int):D:= .rc [.ints .i64 xs]
abbrev ru (xs:List Int):D:= .rc [.ints .u32 xs]
abbrev rb (xs:List Bool):D:= .rc [.bools xs]
@[reducible] def G0:iG:=⟨fun _=>[],fun _=>false⟩
variable [iG]
def X0:aB:=adq
theorem hX0:bT Pg X0:=Si
end TableS
end
noncomputable section
namespace TableS
open Go Go.Dam Go.Proofs
set_option maxRecDepth 1000000
variable [iG]
end TableS
end
noncomputable section
namespace TableS
open Go Go.Dam Go.Proofs
set_option maxRecDepth 1000000
section
variable [iG]
def aec (cp:Nat):Tr D:= .p (.c 0) (.lf (bZ))
theorem VH (cp:Nat) (res:D) (h0:Az res (aec cp) []):Kl 118 [D.v (Value.slice none 0 cp)] res:=fA (hX0) (aec cp) h0
def YB (cp:Nat):Tr D:= .p (.c 0) (.lf (bZ))
theorem TA (cp:Nat) (res:D) (h0:Az res (YB cp) []):Kl 117 [D.v (Value.slice none 0 cp)] res:=fA (hX0) (YB cp) h0
def YF (cp:Nat):Tr D:= .p (.c 0) (.lf (bZ))
theorem QZ (cp:Nat) (res:D) (h0:Az res (YF cp) []):Kl 41 [D.v (Value.slice none 0 cp)] res:=fA (hX0) (YF cp) h0
def Zc (cp:Nat):Tr D:= .p (.c 0) (.lf (bZ))
theorem Us (cp:Nat) (res:D) (h0:Az res (Zc cp) []):Kl 116 [D.v (Value.slice none 0 cp)] res:=fA (hX0) (Zc cp) h0
def Yr (cp:Nat):Tr D:= .p (.c 0) (.lf (bZ))
theorem Uk (cp:Nat) (res:D) (h0:Az res (Yr cp) []):Kl 119 [D.v (Value.slice none 0 cp)] res:=fA (hX0) (Yr cp) h0
end
section
attribute [local instance] GL
def ado (ys:List Bool):Tr D:= .p (.c 0) (.s ((ay.bools ys).len=af [.bools ys]) (.s (af [.bools ys]*1≤17592186044416) (.q (af [.bools ys]) (.lf (D.oc [.bools ys])))))
theorem Vq (ys:List Bool) (res:D) (h0:Az res (ado ys) []):Kl 118 [rb ys] res:=fA (hX0) (ado ys) h0
def ac8 (xs:List Int):Tr D:= .p (.c 0) (.s ((ay.ints .i64 xs).len=af [.ints .i64 xs]) (.s (af [.ints .i64 xs]*8≤17592186044416) (.q (af [.ints .i64 xs]) (.lf (D.oc [.ints .i64 xs])))))
theorem Xt (xs:List Int) (res:D) (h0:Az res (ac8 xs) []):Kl 117 [ri xs] res:=fA (hX0) (ac8 xs) h0
def afH (xs:List Int):Tr D:= .p (.c 0) (.s ((ay.ints .u32 xs).len=af [.ints .u32 xs]) (.s (af [.ints .u32 xs]*4≤17592186044416) (.q (af [.ints .u32 xs]) (.lf (D.oc [.ints .u32 xs])))))
theorem XY (xs:List Int) (res:D) (h0:Az res (afH xs) []):Kl 41 [ru xs] res:=fA (hX0) (afH xs) h0
def acO (x1 x2 x3 x4 x5 x6:List Int):Tr D:= .p (.c 0) (.s ((ay.ints .u64 x6).len=af [.ints .i64 x1, .ints .i64 x2, .ints .i64 x3, .ints .i64 x4, .ints .i64 x5, .ints .u64 x6]) (.s ((ay.ints .i64 x5).len=af [.ints .i64 x1, .ints .i64 x2, .ints .i64 x3, .ints .i64 x4, .ints .i64 x5, .ints .u64 x6]) (.s ((ay.ints .i64 x4).len=af [.ints .i64 x1, .ints .i64 x2, .ints .i64 x3, .ints .i64 x4, .ints .i64 x5, .ints .u64 x6]) (.s ((ay.ints .i64 x3).len=af [.ints .i64 x1, .ints .i64 x2, .ints .i64 x3, .ints .i64 x4, .ints .i64 x5, .ints .u64 x6]) (.s ((ay.ints .i64 x2).len=af [.ints .i64 x1, .ints .i64 x2, .ints .i64 x3, .ints .i64 x4, .ints .i64 x5, .ints .u64 x6]) (.s ((ay.ints .i64 x1).len=af [.ints .i64 x1, .ints .i64 x2, .ints .i64 x3, .ints .i64 x4, .ints .i64 x5, .ints .u64 x6]) (.s (af [.ints .i64 x1, .ints .i64 x2, .ints .i64 x3, .ints .i64 x4, .ints .i64 x5, .ints .u64 x6]*48≤17592186044416) (.q (af [.ints .i64 x1, .ints .i64 x2, .ints .i64 x3, .ints .i64 x4, .ints .i64 x5, .ints .u64 x6]) (.lf (D.oc [.ints .i64 x1, .ints .i64 x2, .ints .i64 x3, .ints .i64 x4, .ints .i64 x5, .ints .u64 x6]))))))))))
theorem VD (x1 x2 x3 x4 x5 x6:List Int) (res:D) (h0:Az res (acO x1 x2 x3 x4 x5 x6) []):Kl 116 [D.rc [Col.ints .i64 x1,Col.ints .i64 x2,Col.ints .i64 x3,Col.ints .i64 x4,Col.ints .i64 x5,Col.ints .u64 x6]] res:=fA (hX0) (acO x1 x2 x3 x4 x5 x6) h0
def aeJ (xs ys:List Int) (zs:List Bool):Tr D:= .p (.c 0) (.s ((ay.bools zs).len=af [.ints .u32 xs, .ints .i64 ys, .bools zs]) (.s ((ay.ints .i64 ys).len=af [.ints .u32 xs, .ints .i64 ys, .bools zs]) (.s ((ay.ints .u32 xs).len=af [.ints .u32 xs, .ints .i64 ys, .bools zs]) (.s (af [.ints .u32 xs, .ints .i64 ys, .bools zs]*24≤17592186044416) (.q (af [.ints .u32 xs, .ints .i64 ys, .bools zs]) (.lf (D.oc [.ints .u32 xs, .ints .i64 ys, .bools zs])))))))
theorem Wi (xs ys:List Int) (zs:List Bool) (res:D) (h0:Az res (aeJ xs ys zs) []):Kl 119 [D.rc [Col.ints .u32 xs,Col.ints .i64 ys,Col.bools zs]] res:=fA (hX0) (aeJ xs ys zs) h0
end
attribute [instance] G0
abbrev kc (x1 x2 x3 x4 x5 x6:List Int):D:= .rc [.ints .i64 x1, .ints .i64 x2, .ints .i64 x3, .ints .i64 x4, .ints .i64 x5, .ints .u64 x6]
abbrev cc (xs ys:List Int) (zs:List Bool):D:= .rc [.ints .u32 xs, .ints .i64 ys, .bools zs]
abbrev oi (xs:List Int):D:= .oc [.ints .i64 xs]
abbrev ou (xs:List Int):D:= .oc [.ints .u32 xs]
abbrev ob (xs:List Bool):D:= .oc [.bools xs]
abbrev kco (x1 x2 x3 x4 x5 x6:List Int):D:= .oc [.ints .i64 x1, .ints .i64 x2, .ints .i64 x3, .ints .i64 x4, .ints .i64 x5, .ints .u64 x6]
abbrev cco (xs ys:List Int) (zs:List Bool):D:= .oc [.ints .u32 xs, .ints .i64 ys, .bools zs]
theorem aj9 (ys:List Bool) (h:ys.length≤200):Kl 118 [rb ys] (ob ys):=
 pR (cols:=[.bools ys]) (fun cp=>VH cp _ ⟨trivial,rfl⟩) (@Vq ys _ ⟨⟨by simp only[af,ay.len];omega,rfl,trivial⟩,rfl⟩)
theorem akx (ys:List Int) (h:ys.length≤200):Kl 117 [ri ys] (oi ys):=
 pR (cols:=[.ints .i64 ys]) (fun cp=>TA cp _ ⟨trivial,rfl⟩) (@Xt ys _ ⟨⟨by simp only[af,ay.len];omega,rfl,trivial⟩,rfl⟩)
theorem amq (ys:List Int) (h:ys.length≤200):Kl 41 [ru ys] (ou ys):=
 pR (cols:=[.ints .u32 ys]) (fun cp=>QZ cp _ ⟨trivial,rfl⟩) (@XY ys _ ⟨⟨by simp only[af,ay.len];omega,rfl,trivial⟩,rfl⟩)
def kcS (x1 x2 x3 x4 x5 x6:List Int):Prop:=x1.length≤200∧x2.length=x1.length∧x3.length=x1.length∧x4.length=x1.length∧x5.length=x1.length∧x6.length=x1.length
def FM (xs ys:List Int) (zs:List Bool):Prop:=xs.length≤200∧ys.length=xs.length∧zs.length=xs.length
theorem amK (x1 x2 x3 x4 x5 x6:List Int) (h:kcS x1 x2 x3 x4 x5 x6):Kl 116 [kc x1 x2 x3 x4 x5 x6] (kco x1 x2 x3 x4 x5 x6):=by
 obtain⟨h1,h2,h3,h4,h5,h6⟩:=h
 exact pR (cols:=[.ints .i64 x1, .ints .i64 x2, .ints .i64 x3, .ints .i64 x4, .ints .i64 x5, .ints .u64 x6]) (fun cp=>Us cp _ ⟨trivial,rfl⟩) (@VD x1 x2 x3 x4 x5 x6 _ ⟨⟨by simp only[af,ay.len];omega,rfl,h2,h3,h4,h5,h6,trivial⟩,rfl⟩)
theorem ak4 (xs ys:List Int) (zs:List Bool) (h:FM xs ys zs):Kl 119 [cc xs ys zs] (cco xs ys zs):=by
 obtain⟨h1,h2,h3⟩:=h
 exact pR (cols:=[.ints .u32 xs, .ints .i64 ys, .bools zs]) (fun cp=>Uk cp _ ⟨trivial,rfl⟩) (@Wi xs ys zs _ ⟨⟨by simp only[af,ay.len];omega,rfl,h2,h3,trivial⟩,rfl⟩)
def alR:List D→Option (D×List Prop)
 |[.rc [.bools ys]]=>some (ob ys,[ys.length≤200])
 |_=>none
theorem ag7 (args res l) (h:alR args=some (res,l)) (hl:aJ l):Kl 118 args res:=by
 unfold alR at h;split at h
 ·obtain⟨rfl,rfl⟩:=dB h;obtain⟨h0,_⟩:=hl
  exact aj9 _ h0
 ·cases h
def ami:List D→Option (D×List Prop)
 |[.rc [.ints .i64 ys]]=>some (oi ys,[ys.length≤200])
 |_=>none
theorem agU (args res l) (h:ami args=some (res,l)) (hl:aJ l):Kl 117 args res:=by
 unfold ami at h;split at h
 ·obtain⟨rfl,rfl⟩:=dB h;obtain⟨h0,_⟩:=hl
  exact akx _ h0
 ·cases h
def alE:List D→Option (D×List Prop)
 |[.rc [.ints .u32 ys]]=>some (ou ys,[ys.length≤200])
 |_=>none
theorem aiV (args res l) (h:alE args=some (res,l)) (hl:aJ l):Kl 41 args res:=by
 unfold alE at h;split at h
 ·obtain⟨rfl,rfl⟩:=dB h;obtain⟨h0,_⟩:=hl
  exact amq _ h0
 ·cases h
def ak0:List D→Option (D×List Prop)
 |[.rc [.ints .i64 x1, .ints .i64 x2, .ints .i64 x3, .ints .i64 x4, .ints .i64 x5, .ints .u64 x6]]=>some (kco x1 x2 x3 x4 x5 x6,[kcS x1 x2 x3 x4 x5 x6])
 |_=>none
theorem ag4 (args res l) (h:ak0 args=some (res,l)) (hl:aJ l):Kl 116 args res:=by
 unfold ak0 at h;split at h
 ·obtain⟨rfl,rfl⟩:=dB h;obtain⟨h0,_⟩:=hl
  exact amK _ _ _ _ _ _ h0
 ·cases h
def akL:List D→Option (D×List Prop)
 |[.rc [.ints .u32 xs, .ints .i64 ys, .bools zs]]=>some (cco xs ys zs,[FM xs ys zs])
 |_=>none
theorem agW (args res l) (h:akL args=some (res,l)) (hl:aJ l):Kl 119 args res:=by
 unfold akL at h;split at h
 ·obtain⟨rfl,rfl⟩:=dB h;obtain⟨h0,_⟩:=hl
  exact ak4 _ _ _ h0
 ·cases h
def X1:aB:=aF 118 (.call alR) (aF 117 (.call ami) (aF 41 (.call alE) (aF 116 (.call ak0) (aF 119 (.call akL) X0))))
theorem hX1:bT Pg X1:=aj ag7 (aj agU (aj aiV (aj ag4 (aj agW hX0))))
end TableS
end
noncomputable section
namespace TableS
open Go Go.Dam Go.Proofs
set_option maxRecDepth 1000000
def inT (xs:List Int) (n:Int) (o:Bool) (i:Int):Cs:=⟨TT.of [(0,ri xs),(1,i64 n),(4,bo o),(5,i64 i)],18,[],[],none,0⟩
def ctT (xs ys:List Int) (zs:List Bool) (o n i:Int):Cs:=⟨TT.of [(0,cc xs ys zs),(2,i64 o),(3,i64 n),(4,i64 i)],19,[],[],none,0⟩
def Ro (xs ys:List Int) (zs:List Bool) (k o i:Int):Cs:=⟨TT.of [(0,cc xs ys zs),(1,u32 k),(4,i64 o),(5,i64 i)],27,[],[],none,0⟩
def ceT (xs ys:List Int) (zs:List Bool) (p k o:Int) (b:Bool) (n:Int) (s:Bool) (i:Int):Cs:=⟨TT.of [(0,cc xs ys zs),(1,i64 p),(2,u32 k),(6,i64 o),(7,bo b),(8,i64 n),(9,bo s),(10,i64 i)],45,[],[],none,0⟩
def siT (xs ys:List Int) (o:Bool) (i:Int):Cs:=⟨TT.of [(0,ri xs),(1,ri ys),(4,bo o),(5,i64 i)],26,[],[],none,0⟩
def TR (xs ys:List Int) (o:Bool) (i:Int):Cs:=⟨TT.of [(0,ru xs),(1,ru ys),(4,bo o),(5,i64 i)],26,[],[],none,0⟩
def U7 (xs:List Int) (n o m i:Int):Cs:=⟨TT.of [(0,ri xs),(1,i64 n),(4,i64 o),(7,i64 m),(8,i64 i)],19,[],[],none,0⟩
def lkT (xs ys:List Int) (zs:List Bool) (k i n:Int):Cs:=⟨TT.of [(0,cc xs ys zs),(1,u32 k),(4,i64 i),(5,i64 n)],30,[],[],none,0⟩
def Am (r n i:Int) (k:Nat) (xs:List Int) (us:List Bool) (f:Int) (ys:List Bool):Cs:=⟨TT.of [(1,(D.ptr 32 0)),(2,i64 r),(3,i64 n),(4,(D.sl 832 0 k ⟨1,0⟩)),(5,i64 i)],77,[],[(32,BX.cells [ri xs,rb us,i64 f] false),(832,BX.row [.bools ys] false)],none,0⟩
theorem dW {i n:Nat} (h:i<n) (hn:n≤200):ai .add .i64 (i:Int) 1=((i+1:Nat):Int):=by
 rw[dH,aY (by omega) (by omega)];omega
theorem aA {i n:Nat} (h:i<n):decide (0≤(i:Int))=true∧decide ((i:Int)<(n:Int))=true:=by simp;exact h
def iW (p:Nat→Bool):Nat→Nat→Int
 |0,_=>-1
 |d+1,i=>if p i then(i:Int) else iW p d (i+1)
theorem JQ {p:Nat→Bool}:∀ (d i:Nat),(∀ j,i≤j→j<i+d→p j=false)→iW p d i=-1
 |0,_,_=>rfl
 |d+1,i,h=>by
  simp only[iW,h i (Nat.le_refl _) (by omega)]
  exact JQ d (i+1) fun j a b=>h j (by omega) (by omega)
theorem uO {p:Nat→Bool}:∀ (d i j:Nat),i≤j→j<i+d→p j=true→(∀ k,i≤k→k<j→p k=false)→iW p d i=(j:Int)
 |0,i,j,_,h,_,_=>by omega
 |d+1,i,j,h0,h1,h2,h3=>by
  by_cases e:p i=true
  ·have:i=j:=by
    rcases Nat.eq_or_lt_of_le h0 with q | q
    ·exact q
    ·rw[h3 i (Nat.le_refl _) q] at e;cases e
   subst this;simp only[iW,e,if_true]
  ·simp only[iW,e]
   have:i≠j:=fun q=>by rw[q] at e;exact e h2
   exact uO d (i+1) j (by omega) (by omega) h2 fun k a b=>h3 k (by omega) b
theorem dZ {p:Nat→Bool}:∀ (d i:Nat),iW p d i<0↔∀ j,i≤j→j<i+d→p j=false
 |0,i=>⟨fun _ j a b=>by omega,fun _=>by simp[iW]⟩
 |d+1,i=>by
  by_cases e:p i=true
  ·simp only[iW,e,if_true]
   exact⟨fun h=>by omega,fun h=>by rw[h i (Nat.le_refl _) (by omega)] at e;cases e⟩
  ·simp only[iW,e]
   refine(dZ d (i+1)).trans ⟨fun h j a b=>?_,fun h j a b=>h j (by omega) (by omega)⟩
   rcases Nat.eq_or_lt_of_le a with q | q
   ·rw[←q];simpa using e
   ·exact h j q (by omega)
theorem Nz (xs:List Int) (n:Int):decide (n∈xs)=!decide (iW (fun i=>xs.getD i 0 ==n) xs.length 0<0):=by
 rw[Bool.eq_iff_iff]
 simp only[decide_eq_true_eq,Bool.not_eq_true',decide_eq_false_iff_not,dZ]
 constructor
 ·intro h q
  obtain⟨i,hi,e⟩:=List.getElem_of_mem h
  have:=q i (by omega) (by omega)
  simp[List.getD_eq_getElem?_getD,List.getElem?_eq_getElem hi,e] at this
 ·intro h
  apply Classical.byContradiction
  intro c
  apply h
  intro j _ hj
  simp only[Nat.zero_add] at hj
  simp only[List.getD_eq_getElem?_getD,List.getElem?_eq_getElem hj,Option.getD_some,beq_eq_false_iff_ne]
  rintro rfl
  exact c (List.getElem_mem hj)
def inB (xs:List Int) (n:Int):Bool:=decide (n∈xs)
def Rq (xs ys:List Int):Bool:=decide (xs=ys)
theorem gV {b:Code} (T:Nat→Cs) (n:Nat) (p:Nat→Bool) (C:Int→Prop)
  (hgo:∀ i,i<n→p i=false→∀ (σ:St) (e:Ex),Runs Pg (CallsD Pg) (.rounds b) (T (i+1)).abs e σ→Runs Pg (CallsD Pg) (.rounds b) (T i).abs e σ)
  (hno:(∀ (σ:St) (e:Ex),Runs Pg (CallsD Pg) (.rounds b) (T n).abs e σ→Runs Pg (CallsD Pg) (.rounds b) (T 0).abs e σ)→C (-1))
  (hye:∀ j,j<n→p j=true→(∀ (σ:St) (e:Ex),Runs Pg (CallsD Pg) (.rounds b) (T j).abs e σ→Runs Pg (CallsD Pg) (.rounds b) (T 0).abs e σ)→C j):C (iW p n 0):=by
 by_cases h:∃ j,0≤j∧j<n∧¬ p j=false
 ·obtain⟨j,_,h1,h2,h3,h4⟩:=lQ T n (fun i=>p i=false) (fun i a c σ e r=>hgo i a c σ e r) n 0 (by omega) h
  rw[uO n 0 j (by omega) (by omega) (by simpa using h2) (fun k a c=>h3 k a c)]
  exact hye j h1 (by simpa using h2) fun σ e r=>h4 σ e r
 ·have hf:∀ j,j<n→p j=false:=fun j a=>by
   cases e:p j with
   |false=>rfl
   |true=>exact absurd ⟨j,by omega,a,by simp[e]⟩ h
  rw[JQ n 0 fun j _ a=>hf j (by omega)]
  exact hno fun σ e r=>fF T n (fun i=>p i=false) (fun i a c σ e r=>hgo i a c σ e r) r n 0 (by omega) fun j _ a=>hf j a
def Sj (xs:List Int) (n:Int) (o:Bool) (i:Int):Tr (Ex×Cs):= .e (ah .lss i ↑(xs.length)) (.s (decide (i< ↑(xs.length))=true) (.s (decide (0≤i)=true) (.e (ah .eql (xs.getD i.toNat 0) n) (.lf (Ex.ret,(inT (xs) (n) (true) (i)))) (.lf (Ex.normal,(inT (xs) (n) (o) (ai .add .i64 i 1))))))) (.lf (Ex.exit 0,(inT (xs) (n) (o) (i))))
theorem Jw (xs:List Int) (n:Int) (o:Bool) (i:Int) (σ:St) (e:Ex) (h0:Rg 110 0 e σ (Sj xs n o i) [true,true]) (h1:Rg 110 0 e σ (Sj xs n o i) [true,false]) (h2:Rg 110 0 e σ (Sj xs n o i) [false]):Rn 110 0 (inT xs n o i).abs e σ:=qH (hX1) [[0,1,4,5]] [] (Sj xs n o i) ⟨fun e0=>⟨h0 e0,h1 e0⟩,h2⟩
def ajp (xs:List Int) (n:Int) (o:Bool) (i:Int):Tr D:= .p (.l [[0,1,4,5]] [] (inT xs n false 0) (Ex.exit 0) (inT xs n o i)) (.s (Rl 110 0 (inT xs n false 0).abs (Ex.exit 0) (inT xs n o i).abs) (.k ((inT xs n false 0=inT xs n false 0)) rfl (.lf (bo false))))
theorem abn (xs:List Int) (n:Int) (o:Bool) (i:Int) (res:D) (h0:Az res (ajp xs n o i) []):Kl 110 [ri xs,i64 n] res:=fA (hX1) (ajp xs n o i) h0
def ajh (xs:List Int) (n:Int) (o:Bool) (i:Int):Tr D:= .p (.l [[0,1,4,5]] [] (inT xs n false 0) Ex.ret (inT xs n o i)) (.s (Rl 110 0 (inT xs n false 0).abs (Ex.ret) (inT xs n o i).abs) (.k ((inT xs n false 0=inT xs n false 0)) rfl (.lf (bo o))))
theorem aaC (xs:List Int) (n:Int) (o:Bool) (i:Int) (res:D) (h0:Az res (ajh xs n o i) []):Kl 110 [ri xs,i64 n] res:=fA (hX1) (ajh xs n o i) h0
def U5 (xs:List Int) (n o m i:Int):Tr (Ex×Cs):= .e (ah .lss i m) (.s (decide (i< ↑(xs.length))=true) (.s (decide (0≤i)=true) (.e (ah .eql n (xs.getD i.toNat 0)) (.lf (Ex.ret,(U7 (xs) (n) (i) (m) (i)))) (.lf (Ex.normal,(U7 (xs) (n) (o) (m) (ai .add .i64 i 1))))))) (.lf (Ex.exit 0,(U7 (xs) (n) (o) (m) (i))))
theorem JL (xs:List Int) (n o m i:Int) (σ:St) (e:Ex) (h0:Rg 157 0 e σ (U5 xs n o m i) [true,true]) (h1:Rg 157 0 e σ (U5 xs n o m i) [true,false]) (h2:Rg 157 0 e σ (U5 xs n o m i) [false]):Rn 157 0 (U7 xs n o m i).abs e σ:=qH (hX1) [[0,1,4,7,8]] [] (U5 xs n o m i) ⟨fun e0=>⟨h0 e0,h1 e0⟩,h2⟩
def ajq (xs:List Int) (n o m i:Int):Tr D:= .p (.l [[0,1,4,7,8]] [] (U7 xs n 0 (↑(xs.length)) 0) (Ex.exit 0) (U7 xs n o m i)) (.s (Rl 157 0 (U7 xs n 0 (↑(xs.length)) 0).abs (Ex.exit 0) (U7 xs n o m i).abs) (.k ((U7 xs n 0 (↑(xs.length)) 0=U7 xs n 0 (↑(xs.length)) 0)) rfl (.lf (i64 (-1)))))
theorem abU (xs:List Int) (n o m i:Int) (res:D) (h0:Az res (ajq xs n o m i) []):Kl 157 [ri xs,i64 n] res:=fA (hX1) (ajq xs n o m i) h0
def ai9 (xs:List Int) (n o m i:Int):Tr D:= .p (.l [[0,1,4,7,8]] [] (U7 xs n 0 (↑(xs.length)) 0) Ex.ret (U7 xs n o m i)) (.s (Rl 157 0 (U7 xs n 0 (↑(xs.length)) 0).abs (Ex.ret) (U7 xs n o m i).abs) (.k ((U7 xs n 0 (↑(xs.length)) 0=U7 xs n 0 (↑(xs.length)) 0)) rfl (.lf (i64 o))))
theorem aad (xs:List Int) (n o m i:Int) (res:D) (h0:Az res (ai9 xs n o m i) []):Kl 157 [ri xs,i64 n] res:=fA (hX1) (ai9 xs n o m i) h0
theorem aoE (xs:List Int) (n:Int) (h:xs.length≤200):Kl 110 [ri xs,i64 n] (bo (inB xs n)):=by
 unfold inB;rw[Nz]
 refine gV (b:=dh Pg 110 0) (fun i=>inT xs n false (i:Int)) xs.length (fun i=>xs.getD i 0 ==n) (fun v=>Kl 110 [ri xs,i64 n] (bo (!decide (v<0)))) ?_ ?_ ?_
 ·intro i hi hp σ e hr
  refine Jw xs n false i σ e ?_ ?_ ?_<;>dsimp only[Az,Rg,At,Tr.q,Tr.e,RG,Sj]
  ·intro _ g;rw[Int.toNat_natCast,bY] at g;rw[g] at hp;simp at hp
  ·intro _ _;rw[dW hi h];exact⟨⟨(aA hi).1,(aA hi).2,trivial⟩,hr⟩
  ·intro g;rw[aX] at g;omega
 ·intro hr
  refine abn xs n false xs.length _ ⟨⟨au (hr _ _ (Jw xs n false xs.length _ _ ?_ ?_ ?_)),trivial⟩,rfl⟩
  ·intro g;rw[aP] at g;omega
  ·intro g;rw[aP] at g;omega
  ·intro _;exact⟨trivial,rfl,rfl⟩
 ·intro j hj hp hr
  refine aaC xs n true j _ ⟨⟨au (hr _ _ (Jw xs n false j _ _ ?_ ?_ ?_)),trivial⟩,by simp⟩
  ·intro _ _;exact⟨⟨(aA hj).1,(aA hj).2,trivial⟩,rfl,rfl⟩
  ·intro _ g;rw[Int.toNat_natCast,bV] at g;simp at hp;exact absurd hp g
  ·intro g;rw[aX] at g;omega
def ixN (xs:List Int) (n:Int):Int:=iW (fun i=>n ==xs.getD i 0) xs.length 0
theorem an9 (xs:List Int) (n:Int) (h:xs.length≤200):Kl 157 [ri xs,i64 n] (i64 (ixN xs n)):=by
 refine gV (b:=dh Pg 157 0) (fun i=>U7 xs n 0 xs.length (i:Int)) xs.length (fun i=>n ==xs.getD i 0) (fun v=>Kl 157 [ri xs,i64 n] (i64 v)) ?_ ?_ ?_
 ·intro i hi hp σ e hr
  refine JL xs n 0 xs.length i σ e ?_ ?_ ?_<;>dsimp only[Az,Rg,At,Tr.q,Tr.e,RG,U5]
  ·intro _ g;rw[Int.toNat_natCast,bY] at g;rw[g] at hp;simp at hp
  ·intro _ _;rw[dW hi h];exact⟨⟨(aA hi).1,(aA hi).2,trivial⟩,hr⟩
  ·intro g;rw[aX] at g;omega
 ·intro hr
  refine abU xs n 0 xs.length xs.length _ ⟨⟨au (hr _ _ (JL xs n 0 xs.length xs.length _ _ ?_ ?_ ?_)),trivial⟩,rfl⟩
  ·intro g;rw[aP] at g;omega
  ·intro g;rw[aP] at g;omega
  ·intro _;exact⟨trivial,rfl,rfl⟩
 ·intro j hj hp hr
  refine aad xs n j xs.length j _ ⟨⟨au (hr _ _ (JL xs n 0 xs.length j _ _ ?_ ?_ ?_)),trivial⟩,rfl⟩
  ·intro _ _;exact⟨⟨(aA hj).1,(aA hj).2,trivial⟩,rfl,rfl⟩
  ·intro _ g;rw[Int.toNat_natCast,bV] at g;simp at hp;exact absurd hp g
  ·intro g;rw[aX] at g;omega
theorem MI {xs ys:List Int} (h:xs.length=ys.length):decide (xs=ys)=decide (iW (fun i=>xs.getD i 0 != ys.getD i 0) xs.length 0<0):=by
 rw[Bool.eq_iff_iff]
 simp only[decide_eq_true_eq,dZ]
 constructor
 ·intro e j _ _;simp[e]
 ·intro q
  apply List.ext_getElem h
  intro i h1 h2
  have:=q i (by omega) (by omega)
  simpa [List.getD_eq_getElem?_getD,List.getElem?_eq_getElem h1,List.getElem?_eq_getElem h2] using this
def cnt (q:Nat→Bool):Nat→Nat
 |0=>0
 |n+1=>cnt q n+bif q n then 1 else 0
def OW (q:Nat→Bool):Nat→Bool
 |0=>true
 |n+1=>OW q n && q n
theorem cnt_le (q:Nat→Bool):∀ n,cnt q n≤n
 |0=>Nat.le_refl _
 |n+1=>by have:=cnt_le q n;simp only[cnt];cases q n<;>simp<;>omega
theorem Ho {q:Nat→Bool}:∀ {n},OW q n=true↔∀ i,i<n→q i=true
 |0=>by simp[OW]
 |n+1=>by
  simp only[OW,Bool.and_eq_true,Ho]
  constructor
  ·intro h i hi
   rcases Nat.lt_or_ge i n with a | a
   ·exact h.1 i a
   ·rw[show i=n by omega];exact h.2
  ·intro h;exact⟨fun i hi=>h i (by omega),h n (by omega)⟩
theorem cnt1 {q:Nat→Bool} {i n:Nat} (h:i<n) (hn:n≤200):ai .add .i64 (cnt q i:Int) 1=((cnt q i+1:Nat):Int):=by
 have:=cnt_le q i
 rw[dH,aY (by omega) (by omega)];omega
def TQ (xs ys:List Int) (o:Bool) (i:Int):Tr (Ex×Cs):= .e (ah .lss i ↑(xs.length)) (.s (decide (i< ↑(xs.length))=true) (.s (decide (0≤i)=true) (.s (decide (i< ↑(ys.length))=true) (.s (decide (0≤i)=true) (.e (ah .neq (xs.getD i.toNat 0) (ys.getD i.toNat 0)) (.lf (Ex.ret,(siT (xs) (ys) (false) (i)))) (.lf (Ex.normal,(siT (xs) (ys) (o) (ai .add .i64 i 1))))))))) (.lf (Ex.exit 0,(siT (xs) (ys) (o) (i))))
theorem Jt (xs ys:List Int) (o:Bool) (i:Int) (σ:St) (e:Ex) (h0:Rg 156 0 e σ (TQ xs ys o i) [true,true]) (h1:Rg 156 0 e σ (TQ xs ys o i) [true,false]) (h2:Rg 156 0 e σ (TQ xs ys o i) [false]):Rn 156 0 (siT xs ys o i).abs e σ:=qH (hX1) [[0,1,4,5]] [] (TQ xs ys o i) ⟨fun e0=>⟨h0 e0,h1 e0⟩,h2⟩
def Zw (xs ys:List Int) (o:Bool) (i:Int):Tr D:= .e (ah .neq ↑(xs.length) ↑(ys.length)) (.lf (bo false)) (.p (.l [[0,1,4,5]] [] (siT xs ys false 0) (Ex.exit 0) (siT xs ys o i)) (.s (Rl 156 0 (siT xs ys false 0).abs (Ex.exit 0) (siT xs ys o i).abs) (.k ((siT xs ys false 0=siT xs ys false 0)) rfl (.lf (bo true)))))
theorem Oh (xs ys:List Int) (o:Bool) (i:Int) (res:D) (h0:Az res (Zw xs ys o i) [true]) (h1:Az res (Zw xs ys o i) [false]):Kl 156 [ri xs,ri ys] res:=fA (hX1) (Zw xs ys o i) ⟨h0,h1⟩
def acG (xs ys:List Int) (o:Bool) (i:Int):Tr D:= .e (ah .neq ↑(xs.length) ↑(ys.length)) (.lf (bo false)) (.p (.l [[0,1,4,5]] [] (siT xs ys false 0) Ex.ret (siT xs ys o i)) (.s (Rl 156 0 (siT xs ys false 0).abs (Ex.ret) (siT xs ys o i).abs) (.k ((siT xs ys false 0=siT xs ys false 0)) rfl (.lf (bo o)))))
theorem aaF (xs ys:List Int) (o:Bool) (i:Int) (res:D) (h0:Az res (acG xs ys o i) [true]) (h1:Az res (acG xs ys o i) [false]):Kl 156 [ri xs,ri ys] res:=fA (hX1) (acG xs ys o i) ⟨h0,h1⟩
theorem anQ (xs ys:List Int) (h:xs.length≤200):Kl 156 [ri xs,ri ys] (bo (Rq xs ys)):=by
 unfold Rq
 by_cases hl:xs.length=ys.length
 ·rw[MI hl]
  refine gV (b:=dh Pg 156 0) (fun i=>siT xs ys false (i:Int)) xs.length (fun i=>xs.getD i 0 != ys.getD i 0) (fun v=>Kl 156 [ri xs,ri ys] (bo (decide (v<0)))) ?_ ?_ ?_
  ·intro i hi hp σ e hr
   have hj:i<ys.length:=by omega
   refine Jt xs ys false i σ e ?_ ?_ ?_<;>dsimp only[Az,Rg,At,Tr.q,Tr.e,RG,TQ]
   ·intro _ g;rw[Int.toNat_natCast,aI] at g;simp at hp;exact absurd hp g
   ·intro _ _;rw[dW hi h];exact⟨⟨(aA hj).1,(aA hj).2,(aA hi).1,(aA hi).2,trivial⟩,hr⟩
   ·intro g;rw[aX] at g;omega
  ·intro hr
   refine Oh xs ys false xs.length _ (fun g=>?_) fun _=>⟨⟨au (hr _ _ (Jt xs ys false xs.length _ _ ?_ ?_ ?_)),trivial⟩,rfl⟩
   ·rw[aI] at g;omega
   ·intro g;rw[aP] at g;omega
   ·intro g;rw[aP] at g;omega
   ·intro _;exact⟨trivial,rfl,rfl⟩
  ·intro j hj hp hr
   have hj':j<ys.length:=by omega
   refine aaF xs ys false j _ (fun g=>?_) fun _=>⟨⟨au (hr _ _ (Jt xs ys false j _ _ ?_ ?_ ?_)),trivial⟩,by simp⟩
   ·rw[aI] at g;omega
   ·intro _ _;exact⟨⟨(aA hj').1,(aA hj').2,(aA hj).1,(aA hj).2,trivial⟩,rfl,rfl⟩
   ·intro _ g;rw[Int.toNat_natCast,aQ] at g;simp at hp;exact absurd g hp
   ·intro g;rw[aX] at g;omega
 ·rw[decide_eq_false (fun e=>hl (by rw[e]))]
  refine Oh xs ys false 0 _ (fun _=>⟨trivial,rfl⟩) fun g=>?_<;>dsimp only[Az,Rg,At,Tr.q,Tr.e,Zw]
  rw[aQ] at g;omega
def Um (xs ys:List Int) (o:Bool) (i:Int):Tr (Ex×Cs):= .e (ah .lss i ↑(xs.length)) (.s (decide (i< ↑(xs.length))=true) (.s (decide (0≤i)=true) (.s (decide (i< ↑(ys.length))=true) (.s (decide (0≤i)=true) (.e (ah .neq (xs.getD i.toNat 0) (ys.getD i.toNat 0)) (.lf (Ex.ret,(TR (xs) (ys) (false) (i)))) (.lf (Ex.normal,(TR (xs) (ys) (o) (ai .add .i64 i 1))))))))) (.lf (Ex.exit 0,(TR (xs) (ys) (o) (i))))
theorem IG (xs ys:List Int) (o:Bool) (i:Int) (σ:St) (e:Ex) (h0:Rg 25 0 e σ (Um xs ys o i) [true,true]) (h1:Rg 25 0 e σ (Um xs ys o i) [true,false]) (h2:Rg 25 0 e σ (Um xs ys o i) [false]):Rn 25 0 (TR xs ys o i).abs e σ:=qH (hX1) [[0,1,4,5]] [] (Um xs ys o i) ⟨fun e0=>⟨h0 e0,h1 e0⟩,h2⟩
def Zx (xs ys:List Int) (o:Bool) (i:Int):Tr D:= .e (ah .neq ↑(xs.length) ↑(ys.length)) (.lf (bo false)) (.p (.l [[0,1,4,5]] [] (TR xs ys false 0) (Ex.exit 0) (TR xs ys o i)) (.s (Rl 25 0 (TR xs ys false 0).abs (Ex.exit 0) (TR xs ys o i).abs) (.k ((TR xs ys false 0=TR xs ys false 0)) rfl (.lf (bo true)))))
theorem N9 (xs ys:List Int) (o:Bool) (i:Int) (res:D) (h0:Az res (Zx xs ys o i) [true]) (h1:Az res (Zx xs ys o i) [false]):Kl 25 [ru xs,ru ys] res:=fA (hX1) (Zx xs ys o i) ⟨h0,h1⟩
def afP (xs ys:List Int) (o:Bool) (i:Int):Tr D:= .e (ah .neq ↑(xs.length) ↑(ys.length)) (.lf (bo false)) (.p (.l [[0,1,4,5]] [] (TR xs ys false 0) Ex.ret (TR xs ys o i)) (.s (Rl 25 0 (TR xs ys false 0).abs (Ex.ret) (TR xs ys o i).abs) (.k ((TR xs ys false 0=TR xs ys false 0)) rfl (.lf (bo o)))))
theorem aal (xs ys:List Int) (o:Bool) (i:Int) (res:D) (h0:Az res (afP xs ys o i) [true]) (h1:Az res (afP xs ys o i) [false]):Kl 25 [ru xs,ru ys] res:=fA (hX1) (afP xs ys o i) ⟨h0,h1⟩
theorem anV (xs ys:List Int) (h:xs.length≤200):Kl 25 [ru xs,ru ys] (bo (Rq xs ys)):=by
 unfold Rq
 by_cases hl:xs.length=ys.length
 ·rw[MI hl]
  refine gV (b:=dh Pg 25 0) (fun i=>TR xs ys false (i:Int)) xs.length (fun i=>xs.getD i 0 != ys.getD i 0) (fun v=>Kl 25 [ru xs,ru ys] (bo (decide (v<0)))) ?_ ?_ ?_
  ·intro i hi hp σ e hr
   have hj:i<ys.length:=by omega
   refine IG xs ys false i σ e ?_ ?_ ?_<;>dsimp only[Az,Rg,At,Tr.q,Tr.e,RG,Um]
   ·intro _ g;rw[Int.toNat_natCast,aI] at g;simp at hp;exact absurd hp g
   ·intro _ _;rw[dW hi h];exact⟨⟨(aA hj).1,(aA hj).2,(aA hi).1,(aA hi).2,trivial⟩,hr⟩
   ·intro g;rw[aX] at g;omega
  ·intro hr
   refine N9 xs ys false xs.length _ (fun g=>?_) fun _=>⟨⟨au (hr _ _ (IG xs ys false xs.length _ _ ?_ ?_ ?_)),trivial⟩,rfl⟩
   ·rw[aI] at g;omega
   ·intro g;rw[aP] at g;omega
   ·intro g;rw[aP] at g;omega
   ·intro _;exact⟨trivial,rfl,rfl⟩
  ·intro j hj hp hr
   have hj':j<ys.length:=by omega
   refine aal xs ys false j _ (fun g=>?_) fun _=>⟨⟨au (hr _ _ (IG xs ys false j _ _ ?_ ?_ ?_)),trivial⟩,by simp⟩
   ·rw[aI] at g;omega
   ·intro _ _;exact⟨⟨(aA hj').1,(aA hj').2,(aA hj).1,(aA hj).2,trivial⟩,rfl,rfl⟩
   ·intro _ g;rw[Int.toNat_natCast,aQ] at g;simp at hp;exact absurd g hp
   ·intro g;rw[aX] at g;omega
 ·rw[decide_eq_false (fun e=>hl (by rw[e]))]
  refine N9 xs ys false 0 _ (fun _=>⟨trivial,rfl⟩) fun g=>?_<;>dsimp only[Az,Rg,At,Tr.q,Tr.e,Zx]
  rw[aQ] at g;omega
def LX (xs ys:List Int) (zs:List Bool) (o n i:Int):Tr (Ex×Cs):= .e (ah .lss i ↑(xs.length)) (.s (decide (i< ↑(xs.length))=true) (.s (decide (0≤i)=true) (.e (zs.getD i.toNat false) (.lf (Ex.normal,(ctT (xs) (ys) (zs) (o) (ai .add .i64 n 1) (ai .add .i64 i 1)))) (.lf (Ex.normal,(ctT (xs) (ys) (zs) (o) (n) (ai .add .i64 i 1))))))) (.lf (Ex.exit 0,(ctT (xs) (ys) (zs) (o) (n) (i))))
theorem Tf (xs ys:List Int) (zs:List Bool) (o n i:Int) (σ:St) (e:Ex) (h0:Rg 108 0 e σ (LX xs ys zs o n i) [true,true]) (h1:Rg 108 0 e σ (LX xs ys zs o n i) [true,false]) (h2:Rg 108 0 e σ (LX xs ys zs o n i) [false]):Rn 108 0 (ctT xs ys zs o n i).abs e σ:=qH (hX1) [[0,2,3,4]] [] (LX xs ys zs o n i) ⟨fun e0=>⟨h0 e0,h1 e0⟩,h2⟩
def ajf (xs ys:List Int) (zs:List Bool) (o n i:Int):Tr D:= .p (.l [[0,2,3,4]] [] (ctT xs ys zs 0 0 0) (Ex.exit 0) (ctT xs ys zs o n i)) (.s (Rl 108 0 (ctT xs ys zs 0 0 0).abs (Ex.exit 0) (ctT xs ys zs o n i).abs) (.k ((ctT xs ys zs 0 0 0=ctT xs ys zs 0 0 0)) rfl (.lf (i64 n))))
theorem abI (xs ys:List Int) (zs:List Bool) (o n i:Int) (res:D) (h0:Az res (ajf xs ys zs o n i) []):Kl 108 [cc xs ys zs] res:=fA (hX1) (ajf xs ys zs o n i) h0
def PG (xs ys:List Int) (zs:List Bool) (k o i:Int):=Ro (xs) (ys) (zs) (k) (o) (ai .add .i64 i 1)
def Ny (xs ys:List Int) (zs:List Bool) (k o i:Int):Tr (Ex×Cs):= .e (ah .lss i ↑(xs.length)) (.s (decide (i< ↑(xs.length))=true) (.s (decide (0≤i)=true) (.e (zs.getD i.toNat false) (.p (.c 5) (.s (decide (i< ↑(xs.length))=true) (.s (decide (0≤i)=true) (.e (ah .eql (xs.getD i.toNat 0) k) (.lf (Ex.ret,(Ro (xs) (ys) (zs) (k) (i) (i)))) (.lf (Ex.normal,(PG xs ys zs k o i))))))) (.p (.c 6) (.lf (Ex.normal,(PG xs ys zs k o i))))))) (.lf (Ex.exit 0,(Ro (xs) (ys) (zs) (k) (o) (i))))
theorem I4 (xs ys:List Int) (zs:List Bool) (k o i:Int) (σ:St) (e:Ex) (h0:Rg 150 0 e σ (Ny xs ys zs k o i) [true,true,true]) (h1:Rg 150 0 e σ (Ny xs ys zs k o i) [true,true,false]) (h2:Rg 150 0 e σ (Ny xs ys zs k o i) [true,false]) (h3:Rg 150 0 e σ (Ny xs ys zs k o i) [false]):Rn 150 0 (Ro xs ys zs k o i).abs e σ:=qH (hX1) [[0,1,4,5]] [] (Ny xs ys zs k o i) ⟨fun e0=>⟨fun e1=>⟨h0 e0 e1,h1 e0 e1⟩,h2 e0⟩,h3⟩
def ajy (xs ys:List Int) (zs:List Bool) (k o i:Int):Tr D:= .p (.l [[0,1,4,5]] [] (Ro xs ys zs k 0 0) (Ex.exit 0) (Ro xs ys zs k o i)) (.s (Rl 150 0 (Ro xs ys zs k 0 0).abs (Ex.exit 0) (Ro xs ys zs k o i).abs) (.k ((Ro xs ys zs k 0 0=Ro xs ys zs k 0 0)) rfl (.lf (i64 (-1)))))
theorem abB (xs ys:List Int) (zs:List Bool) (k o i:Int) (res:D) (h0:Az res (ajy xs ys zs k o i) []):Kl 150 [cc xs ys zs,u32 k] res:=fA (hX1) (ajy xs ys zs k o i) h0
def ajx (xs ys:List Int) (zs:List Bool) (k o i:Int):Tr D:= .p (.l [[0,1,4,5]] [] (Ro xs ys zs k 0 0) Ex.ret (Ro xs ys zs k o i)) (.s (Rl 150 0 (Ro xs ys zs k 0 0).abs (Ex.ret) (Ro xs ys zs k o i).abs) (.k ((Ro xs ys zs k 0 0=Ro xs ys zs k 0 0)) rfl (.lf (i64 o))))
theorem aa1 (xs ys:List Int) (zs:List Bool) (k o i:Int) (res:D) (h0:Az res (ajx xs ys zs k o i) []):Kl 150 [cc xs ys zs,u32 k] res:=fA (hX1) (ajx xs ys zs k o i) h0
def QC (xs ys:List Int) (zs:List Bool) (p k o:Int) (b:Bool) (n:Int) (s:Bool) (i:Int):=ceT (xs) (ys) (zs) (p) (k) (o) (b) (n) (s) (ai .add .i64 i 1)
def EP (xs ys:List Int) (zs:List Bool) (p k o:Int) (b:Bool) (n:Int) (s:Bool) (i:Int):Tr (Ex×Cs):= .e (ah .lss i ↑(xs.length)) (.s (decide (i< ↑(xs.length))=true) (.s (decide (0≤i)=true) (.e (zs.getD i.toNat false) (.p (.c 5) (.s (decide (i< ↑(xs.length))=true) (.s (decide (0≤i)=true) (.e (ah .eql (ys.getD i.toNat 0) p) (.e (s) (.p (.c 5) (.s (decide (i< ↑(xs.length))=true) (.s (decide (0≤i)=true) (.lf (Ex.normal,(ceT (xs) (ys) (zs) (p) (k) (o) (b) (ai .add .i64 n 1) (ah .eql (xs.getD i.toNat 0) k) (ai .add .i64 i 1))))))) (.p (.c 5) (.lf (Ex.normal,(ceT (xs) (ys) (zs) (p) (k) (o) (b) (ai .add .i64 n 1) (false) (ai .add .i64 i 1)))))) (.lf (Ex.normal,(QC xs ys zs p k o b n s i))))))) (.p (.c 6) (.lf (Ex.normal,(QC xs ys zs p k o b n s i))))))) (.lf (Ex.exit 0,(ceT (xs) (ys) (zs) (p) (k) (o) (b) (n) (s) (i))))
theorem Tm (xs ys:List Int) (zs:List Bool) (p k o:Int) (b:Bool) (n:Int) (s:Bool) (i:Int) (σ:St) (e:Ex) (h0:Rg 109 0 e σ (EP xs ys zs p k o b n s i) [true,true,true,true]) (h1:Rg 109 0 e σ (EP xs ys zs p k o b n s i) [true,true,true,false]) (h2:Rg 109 0 e σ (EP xs ys zs p k o b n s i) [true,true,false]) (h3:Rg 109 0 e σ (EP xs ys zs p k o b n s i) [true,false]) (h4:Rg 109 0 e σ (EP xs ys zs p k o b n s i) [false]):Rn 109 0 (ceT xs ys zs p k o b n s i).abs e σ:=qH (hX1) [[0,1,2,6,7,8,9,10]] [] (EP xs ys zs p k o b n s i) ⟨fun e0=>⟨fun e1=>⟨fun e2=>⟨h0 e0 e1 e2,h1 e0 e1 e2⟩,h2 e0 e1⟩,h3 e0⟩,h4⟩
def ai8 (xs ys:List Int) (zs:List Bool) (p k o:Int) (b:Bool) (n:Int) (s:Bool) (i:Int):Tr D:= .p (.l [[0,1,2,6,7,8,9,10]] [] (ceT xs ys zs p k 0 false 0 true 0) (Ex.exit 0) (ceT xs ys zs p k o b n s i)) (.s (Rl 109 0 (ceT xs ys zs p k 0 false 0 true 0).abs (Ex.exit 0) (ceT xs ys zs p k o b n s i).abs) (.k ((ceT xs ys zs p k 0 false 0 true 0=ceT xs ys zs p k 0 false 0 true 0)) rfl (.lf (D.aS [i64 n,bo s]))))
theorem aaG (xs ys:List Int) (zs:List Bool) (p k o:Int) (b:Bool) (n:Int) (s:Bool) (i:Int) (res:D) (h0:Az res (ai8 xs ys zs p k o b n s i) []):Kl 109 [cc xs ys zs,i64 p,u32 k] res:=fA (hX1) (ai8 xs ys zs p k o b n s i) h0
def gq (n:Nat) (zs:List Bool):Nat:=cnt (fun i=>zs.getD i false) n
theorem ao2 (xs ys:List Int) (zs:List Bool) (h:xs.length≤200):Kl 108 [cc xs ys zs] (i64 (gq xs.length zs)):=by
 refine abI xs ys zs 0 (gq xs.length zs) xs.length _ ⟨⟨au ?_,trivial⟩,rfl⟩
 refine fF (fun i=>ctT xs ys zs 0 (gq i zs:Nat) (i:Int)) xs.length (fun _=>True) (fun i hi _ σ e hr=>?_) ?_ xs.length 0 (by omega) (fun _ _ _=>trivial)
 ·refine Tf xs ys zs 0 _ i σ e ?_ ?_ ?_<;>dsimp only[Az,Rg,At,Tr.q,Tr.e,RG,LX]
  ·intro _ g
   rw[Int.toNat_natCast] at g
   rw[dW hi h];unfold gq;rw[cnt1 hi h]
   refine⟨⟨(aA hi).1,(aA hi).2,trivial⟩,?_⟩
   simp only[gq,cnt,g,cond_true] at hr;exact hr
  ·intro _ g
   rw[Int.toNat_natCast] at g
   rw[dW hi h]
   refine⟨⟨(aA hi).1,(aA hi).2,trivial⟩,?_⟩
   simp only[gq,cnt,g,cond_false,Nat.add_zero] at hr;exact hr
  ·intro g;rw[aX] at g;omega
 ·refine Tf xs ys zs 0 _ xs.length _ _ ?_ ?_ ?_<;>dsimp only[Az,Rg,At,Tr.q,Tr.e,RG,LX]
  ·intro g;rw[aP] at g;omega
  ·intro g;rw[aP] at g;omega
  ·intro _;exact⟨trivial,rfl,rfl⟩
def su (xs:List Int) (zs:List Bool) (k:Int):Int:=iW (fun i=>zs.getD i false && xs.getD i 0 ==k) xs.length 0
theorem aoD (xs ys:List Int) (zs:List Bool) (k:Int) (h:xs.length≤200):Kl 150 [cc xs ys zs,u32 k] (i64 (su xs zs k)):=by
 refine gV (b:=dh Pg 150 0) (fun i=>Ro xs ys zs k 0 (i:Int)) xs.length (fun i=>zs.getD i false && xs.getD i 0 ==k) (fun v=>Kl 150 [cc xs ys zs,u32 k] (i64 v)) ?_ ?_ ?_
 ·intro i hi hp σ e hr
  refine I4 xs ys zs k 0 i σ e ?_ ?_ ?_ ?_<;>dsimp only[Az,Rg,At,Tr.q,Tr.e,RG,Ny]
  ·intro _ g1 g2;rw[Int.toNat_natCast] at g1;rw[Int.toNat_natCast,bY] at g2;rw[g1,g2] at hp;simp at hp
  ·intro _ _ _;unfold PG;rw[dW hi h];exact⟨⟨(aA hi).1,(aA hi).2,(aA hi).1,(aA hi).2,trivial⟩,hr⟩
  ·intro _ _;unfold PG;rw[dW hi h];exact⟨⟨(aA hi).1,(aA hi).2,trivial⟩,hr⟩
  ·intro g;rw[aX] at g;omega
 ·intro hr
  refine abB xs ys zs k 0 xs.length _ ⟨⟨au (hr _ _ (I4 xs ys zs k 0 xs.length _ _ ?_ ?_ ?_ ?_)),trivial⟩,rfl⟩
  ·intro g;rw[aP] at g;omega
  ·intro g;rw[aP] at g;omega
  ·intro g;rw[aP] at g;omega
  ·intro _;exact⟨trivial,rfl,rfl⟩
 ·intro j hj hp hr
  simp only[Bool.and_eq_true,beq_iff_eq] at hp
  refine aa1 xs ys zs k j j _ ⟨⟨au (hr _ _ (I4 xs ys zs k 0 j _ _ ?_ ?_ ?_ ?_)),trivial⟩,rfl⟩
  ·intro _ _ _;exact⟨⟨(aA hj).1,(aA hj).2,(aA hj).1,(aA hj).2,trivial⟩,rfl,rfl⟩
  ·intro _ _ g;rw[Int.toNat_natCast,bV] at g;exact absurd hp.2 g
  ·intro _ g;rw[Int.toNat_natCast,hp.1] at g;cases g
  ·intro g;rw[aX] at g;omega
def QV (ys:List Int) (zs:List Bool) (p:Int) (i:Nat):Bool:=zs.getD i false && ys.getD i 0 ==p
def KZ (n:Nat) (ys:List Int) (zs:List Bool) (p:Int):Nat:=cnt (QV ys zs p) n
def Zn (n:Nat) (xs ys:List Int) (zs:List Bool) (p k:Int):Bool:=OW (fun i=>!QV ys zs p i || xs.getD i 0 ==k) n
theorem aoF (xs ys:List Int) (zs:List Bool) (p k:Int) (h:xs.length≤200):Kl 109 [cc xs ys zs,i64 p,u32 k] (.aS [i64 (KZ xs.length ys zs p),bo (Zn xs.length xs ys zs p k)]):=by
 refine aaG xs ys zs p k 0 false (KZ xs.length ys zs p) (Zn xs.length xs ys zs p k) xs.length _ ⟨⟨au ?_,trivial⟩,rfl⟩
 refine fF (fun i=>ceT xs ys zs p k 0 false (KZ i ys zs p:Nat) (Zn i xs ys zs p k) (i:Int)) xs.length (fun _=>True) (fun i hi _ σ e hr=>?_) ?_ xs.length 0 (by omega) (fun _ _ _=>trivial)
 ·refine Tm xs ys zs p k 0 false _ _ i σ e ?_ ?_ ?_ ?_ ?_<;>dsimp only[Az,Rg,At,Tr.q,Tr.e,RG,EP]
  ·intro _ g1 g2 g3
   rw[Int.toNat_natCast] at g1;rw[Int.toNat_natCast,bY] at g2
   have q:QV ys zs p i=true:=by unfold QV;rw[g1,g2];simp
   rw[dW hi h];unfold KZ;rw[cnt1 hi h]
   refine⟨⟨(aA hi).1,(aA hi).2,(aA hi).1,(aA hi).2,(aA hi).1,(aA hi).2,trivial⟩,?_⟩
   unfold Zn at g3
   simp only[KZ,Zn,cnt,OW,q,cond_true,g3,Bool.true_and,Bool.not_true,Bool.false_or] at hr
   exact hr
  ·intro _ g1 g2 g3
   rw[Int.toNat_natCast] at g1;rw[Int.toNat_natCast,bY] at g2
   have q:QV ys zs p i=true:=by unfold QV;rw[g1,g2];simp
   rw[dW hi h];unfold KZ;rw[cnt1 hi h]
   refine⟨⟨(aA hi).1,(aA hi).2,(aA hi).1,(aA hi).2,trivial⟩,?_⟩
   unfold Zn at g3
   simp only[KZ,Zn,cnt,OW,q,cond_true,g3,Bool.false_and] at hr
   exact hr
  ·intro _ g1 g2
   rw[Int.toNat_natCast,bV] at g2
   have q:QV ys zs p i=false:=by unfold QV;rw[beq_eq_false_iff_ne.2 g2,Bool.and_false]
   unfold QC;rw[dW hi h]
   refine⟨⟨(aA hi).1,(aA hi).2,(aA hi).1,(aA hi).2,trivial⟩,?_⟩
   simp only[KZ,Zn,cnt,OW,q,cond_false,Nat.add_zero,Bool.not_false,Bool.true_or,Bool.and_true] at hr
   exact hr
  ·intro _ g1
   rw[Int.toNat_natCast] at g1
   have q:QV ys zs p i=false:=by simp only[QV,g1,Bool.false_and]
   unfold QC;rw[dW hi h]
   refine⟨⟨(aA hi).1,(aA hi).2,trivial⟩,?_⟩
   simp only[KZ,Zn,cnt,OW,q,cond_false,Nat.add_zero,Bool.not_false,Bool.true_or,Bool.and_true] at hr
   exact hr
  ·intro g;rw[aX] at g;omega
 ·refine Tm xs ys zs p k 0 false _ _ xs.length _ _ ?_ ?_ ?_ ?_ ?_<;>dsimp only[Az,Rg,At,Tr.q,Tr.e,RG,EP]
  ·intro g;rw[aP] at g;omega
  ·intro g;rw[aP] at g;omega
  ·intro g;rw[aP] at g;omega
  ·intro g;rw[aP] at g;omega
  ·intro _;exact⟨trivial,rfl,rfl⟩
def Vj:List D→Option (D×List Prop)
 |[.rc [.ints .i64 xs], .v (.int .i64 n)]=>some (bo (inB xs n),[xs.length≤200])
 |_=>none
theorem akZ (args res l) (h:Vj args=some (res,l)) (hl:aJ l):Kl 110 args res:=by
 unfold Vj at h;split at h
 ·obtain⟨rfl,rfl⟩:=dB h;obtain⟨h0,_⟩:=hl
  exact aoE _ _ h0
 ·cases h
def ixC:List D→Option (D×List Prop)
 |[.rc [.ints .i64 xs], .v (.int .i64 n)]=>some (i64 (ixN xs n),[xs.length≤200])
 |_=>none
theorem amN (args res l) (h:ixC args=some (res,l)) (hl:aJ l):Kl 157 args res:=by
 unfold ixC at h;split at h
 ·obtain⟨rfl,rfl⟩:=dB h;obtain⟨h0,_⟩:=hl
  exact an9 _ _ h0
 ·cases h
def siC:List D→Option (D×List Prop)
 |[.rc [.ints .i64 xs], .rc [.ints .i64 ys]]=>some (bo (Rq xs ys),[xs.length≤200])
 |_=>none
theorem am2 (args res l) (h:siC args=some (res,l)) (hl:aJ l):Kl 156 args res:=by
 unfold siC at h;split at h
 ·obtain⟨rfl,rfl⟩:=dB h;obtain⟨h0,_⟩:=hl
  exact anQ _ _ h0
 ·cases h
def skC:List D→Option (D×List Prop)
 |[.rc [.ints .u32 xs], .rc [.ints .u32 ys]]=>some (bo (Rq xs ys),[xs.length≤200])
 |_=>none
theorem amd (args res l) (h:skC args=some (res,l)) (hl:aJ l):Kl 25 args res:=by
 unfold skC at h;split at h
 ·obtain⟨rfl,rfl⟩:=dB h;obtain⟨h0,_⟩:=hl
  exact anV _ _ h0
 ·cases h
def ctC:List D→Option (D×List Prop)
 |[.rc [.ints .u32 xs, .ints .i64 ys, .bools zs]]=>some (i64 (gq xs.length zs),[xs.length≤200])
 |_=>none
theorem ama (args res l) (h:ctC args=some (res,l)) (hl:aJ l):Kl 108 args res:=by
 unfold ctC at h;split at h
 ·obtain⟨rfl,rfl⟩:=dB h;obtain⟨h0,_⟩:=hl
  exact ao2 _ _ _ h0
 ·cases h
def atC:List D→Option (D×List Prop)
 |[.rc [.ints .u32 xs, .ints .i64 ys, .bools zs], .v (.int .u32 k)]=>some (i64 (su xs zs k),[xs.length≤200])
 |_=>none
theorem akj (args res l) (h:atC args=some (res,l)) (hl:aJ l):Kl 150 args res:=by
 unfold atC at h;split at h
 ·obtain⟨rfl,rfl⟩:=dB h;obtain⟨h0,_⟩:=hl
  exact aoD _ _ _ _ h0
 ·cases h
def ceC:List D→Option (D×List Prop)
 |[.rc [.ints .u32 xs, .ints .i64 ys, .bools zs], .v (.int .i64 p), .v (.int .u32 k)]=>some ((.aS [i64 (KZ xs.length ys zs p),bo (Zn xs.length xs ys zs p k)]),[xs.length≤200])
 |_=>none
theorem ald (args res l) (h:ceC args=some (res,l)) (hl:aJ l):Kl 109 args res:=by
 unfold ceC at h;split at h
 ·obtain⟨rfl,rfl⟩:=dB h;obtain⟨h0,_⟩:=hl
  exact aoF _ _ _ _ _ h0
 ·cases h
def X2:aB:=aF 110 (.call Vj) (aF 157 (.call ixC) (aF 156 (.call siC) (aF 25 (.call skC) (aF 108 (.call ctC) (aF 150 (.call atC) (aF 109 (.call ceC) X1))))))
theorem hX2:bT Pg X2:=aj akZ (aj amN (aj am2 (aj amd (aj ama (aj akj (aj ald hX1))))))
def Gg (o:Bool) (k:Nat) (i:Int) (nx:List Int) (us:List Bool) (f:Int) (l:List Int):Cs:=⟨TT.of [(1,D.ptr 32 0),(2,D.v (Value.slice none 0 0)),(3,bo o),(4,D.sl 9001 0 k ⟨1,0⟩),(5,i64 i)],34,[],[(32,BX.cells [ri nx,rb us,i64 f] false),(9001,BX.row [.ints .i64 l] false)],none,0⟩
def Gn (o:Bool) (k:Nat) (i:Int) (ps nx:List Int) (h t:Int) (l:List Int):Cs:=⟨TT.of [(1,D.ptr 32 0),(2,D.v (Value.slice none 0 0)),(3,bo o),(4,D.sl 9001 0 k ⟨1,0⟩),(5,i64 i)],34,[],[(32,BX.cells [ri ps,ri nx,i64 h,i64 t] false),(9001,BX.row [.ints .i64 l] false)],none,0⟩
def zD (r n la i:Int) (k:Nat) (ps nx:List Int) (h t:Int) (ys:List Bool):Cs:=⟨TT.of [(1,D.ptr 32 0),(2,i64 r),(3,i64 n),(4,D.sl 832 0 k ⟨1,0⟩),(5,i64 la),(6,i64 i)],92,[],[(32,BX.cells [ri ps,ri nx,i64 h,i64 t] false),(832,BX.row [.bools ys] false)],none,0⟩
def XJ (n:Int) (xs:List Int) (i:Int) (j k:Nat) (ps nx:List Int):Cs:=⟨TT.of [(0,i64 n),(1,ri xs),(4,D.ptr 128 0),(5,D.ptr 160 0),(6,i64 i)],67,[],[(128,BX.cells [.v (.slice none 0 0), .v (.slice none 0 0),i64 0,i64 0] false),(160,BX.cells [D.sl 9001 0 j ⟨1,0⟩,D.sl 9002 0 k ⟨1,0⟩,i64 (-1),i64 (-1)] false),(9001,BX.row [.ints .i64 ps] false),(9002,BX.row [.ints .i64 nx] false)],none,0⟩
def vJ (r:Int) (k:Nat) (us0:List Bool) (m i:Int) (xs:List Int) (us:List Bool) (f:Int) (ys:List Bool):Cs:=⟨TT.of [(1,(D.ptr 32 0)),(2,i64 r),(4,(D.sl 832 0 k ⟨1,0⟩)),(53,rb us0),(54,i64 m),(55,i64 i)],77,[],[(32,BX.cells [ri xs,rb us,i64 f] false),(832,BX.row [.bools ys] false)],none,0⟩
def vN (r la:Int) (k:Nat) (m i:Int) (ps nx:List Int) (h t:Int) (ys:List Bool):Cs:=⟨TT.of [(1,D.ptr 32 0),(2,i64 r),(5,i64 la),(62,D.sl 832 0 k ⟨1,0⟩),(63,i64 m),(64,i64 i)],92,[],[(32,BX.cells [ri ps,ri nx,i64 h,i64 t] false),(832,BX.row [.bools ys] false)],none,0⟩
def Ky (xs:List Int) (i:Int) (j k:Nat) (h t:Int) (ps nx:List Int):Cs:=⟨TT.of [(1,ri xs),(4,D.ptr 128 0),(5,D.ptr 160 0),(7,i64 i)],67,[],[(128,BX.cells [.v (.slice none 0 0), .v (.slice none 0 0),i64 0,i64 0] false),(160,BX.cells [D.sl 9001 0 j ⟨1,0⟩,D.sl 9002 0 k ⟨1,0⟩,i64 h,i64 t] false),(9001,BX.row [.ints .i64 ps] false),(9002,BX.row [.ints .i64 nx] false)],none,0⟩
theorem zW:∀ (n:Nat) (l:List Int),l.Nodup→(∀ x∈l,0≤x∧x<(n:Int))→l.length≤n
 |0,l,_,h=>by
  cases l with
  |nil=>exact Nat.le_refl _
  |cons a l=>have:=h a (by simp);omega
 |n+1,l,hn,h=>by
  have:=zW n (l.erase (n:Int)) (hn.erase _) fun x hx=>by
   rw[hn.mem_erase_iff] at hx
   have:=h x hx.2
   omega
  by_cases hm:(n:Int)∈l
  ·rw[List.length_erase_of_mem hm] at this;omega
  ·rw[List.erase_of_not_mem hm] at this;omega
def chain (nx:List Int):Nat→Int→List Int→Option (List Int)
 |0,_,_=>none
 |d+1,i,l=>if i=-1 then some l else if i<0∨(nx.length:Int)≤i∨i∈l then none else chain nx d (nx.getD i.toNat 0) (l ++ [i])
def QU (n:Nat) (l:List Int):Prop:=l.Nodup∧∀ x∈l,0≤x∧x<(n:Int)
theorem Be {n:Nat} {l:List Int} {i:Int} (h:QU n l) (h0:0≤i) (h1:i<(n:Int)) (h2:i∉l):QU n (l ++ [i]):=by
 refine⟨?_,?_⟩
 ·rw[List.nodup_append]
  refine⟨h.1,by simp,?_⟩
  intro a ha b hb e
  simp at hb;subst hb;subst e;exact h2 ha
 ·intro x hx
  rcases List.mem_append.1 hx with hx | hx
  ·exact h.2 x hx
  ·simp at hx;subst hx;exact⟨h0,h1⟩
theorem yD (n:Nat):QU n []:=⟨by simp,by simp⟩
theorem Bh {nx:List Int}:∀ {d:Nat} {i:Int} {l l':List Int},QU nx.length l→chain nx d i l=some l'→QU nx.length l'
 |0,_,_,_,_,h=>by cases h
 |d+1,i,l,l',ho,h=>by
  simp only[chain] at h
  split at h
  ·simp only[Option.some.injEq] at h;subst h;exact ho
  ·split at h
   ·cases h
   next hc=>
    exact Bh (Be ho (by omega) (by omega) fun hm=>hc (.inr (.inr hm))) h
def EX (o:Bool) (k:Nat) (i:Int) (nx:List Int) (us:List Bool) (f:Int) (l:List Int):Tr (Ex×Cs):= .e (ah .neq i (-1)) (.e (ah .lss i 0) (.p (.c 7) (.lf (Ex.ret,(Gg (false) (k) (i) (nx) (us) (f) (l))))) (.p (.c 3) (.e (ah .geq i ↑(nx.length)) (.p (.c 2) (.lf (Ex.ret,(Gg (false) (k) (i) (nx) (us) (f) (l))))) (.p (.c 1) (.s (l.length≤200) (.s (k=l.length) (.e (inB l i) (.lf (Ex.ret,(Gg (false) (k) (i) (nx) (us) (f) (l)))) (.s (l.length=l.length) (.s (k=l.length) (.s ((k+1)*8≤17592186044416) (.s (decide (i< ↑(nx.length))=true) (.s (decide (0≤i)=true) (.lf (Ex.normal,(Gg (o) (k+1) (nx.getD i.toNat 0) (nx) (us) (f) (l ++ [i])))))))))))))))) (.lf (Ex.exit 0,(Gg (o) (k) (i) (nx) (us) (f) (l))))
theorem IZ (o:Bool) (k:Nat) (i:Int) (nx:List Int) (us:List Bool) (f:Int) (l:List Int) (σ:St) (e:Ex) (h0:Rg 146 0 e σ (EX o k i nx us f l) [true,true]) (h1:Rg 146 0 e σ (EX o k i nx us f l) [true,false,true]) (h2:Rg 146 0 e σ (EX o k i nx us f l) [true,false,false,true]) (h3:Rg 146 0 e σ (EX o k i nx us f l) [true,false,false,false]) (h4:Rg 146 0 e σ (EX o k i nx us f l) [false]):Rn 146 0 (Gg o k i nx us f l).abs e σ:=qH (hX2) [[1,2,3,4,5]] [(32,32),(9001,9001)] (EX o k i nx us f l) ⟨fun e0=>⟨h0 e0,fun e1=>⟨h1 e0 e1,fun e2=>⟨h2 e0 e1 e2,h3 e0 e1 e2⟩⟩⟩,h4⟩
def ajI (o:Bool) (k:Nat) (i:Int) (nx:List Int) (us:List Bool) (f:Int) (l:List Int):Tr D:= .p (.k [Cast.nil 4 9001 1 [.ints .i64 []]]) (.p (.l [[1,2,3,4,5]] [(32,32),(9001,9001)] (Gg false 0 f nx us f []) (Ex.exit 0) (Gg o k i nx us f l)) (.s (Rl 146 0 (Gg false 0 f nx us f []).abs (Ex.exit 0) (Gg o k i nx us f l).abs) (.k ((Gg false 0 f nx us f []=Gg false 0 f nx us f [])) rfl (.s (k=l.length) (.lf (D.aS [D.oc [.ints .i64 l],bo true]))))))
theorem aah (o:Bool) (k:Nat) (i:Int) (nx:List Int) (us:List Bool) (f:Int) (l:List Int) (res:D) (h0:Az res (ajI o k i nx us f l) []):Kl 146 [D.agg [ri nx,rb us,i64 f]] res:=fA (hX2) (ajI o k i nx us f l) h0
def ajd (o:Bool) (k:Nat) (i:Int) (nx:List Int) (us:List Bool) (f:Int) (l:List Int):Tr D:= .p (.k [Cast.nil 4 9001 1 [.ints .i64 []]]) (.p (.l [[1,2,3,4,5]] [(32,32),(9001,9001)] (Gg false 0 f nx us f []) Ex.ret (Gg o k i nx us f l)) (.s (Rl 146 0 (Gg false 0 f nx us f []).abs (Ex.ret) (Gg o k i nx us f l).abs) (.k ((Gg false 0 f nx us f []=Gg false 0 f nx us f [])) rfl (.lf (D.aS [bZ,bo o])))))
theorem Z7 (o:Bool) (k:Nat) (i:Int) (nx:List Int) (us:List Bool) (f:Int) (l:List Int) (res:D) (h0:Az res (ajd o k i nx us f l) []):Kl 146 [D.agg [ri nx,rb us,i64 f]] res:=fA (hX2) (ajd o k i nx us f l) h0
def FD (o:Bool) (k:Nat) (i:Int) (ps nx:List Int) (h t:Int) (l:List Int):Tr (Ex×Cs):= .e (ah .neq i (-1)) (.e (ah .lss i 0) (.p (.c 7) (.lf (Ex.ret,(Gn (false) (k) (i) (ps) (nx) (h) (t) (l))))) (.p (.c 3) (.e (ah .geq i ↑(nx.length)) (.p (.c 2) (.lf (Ex.ret,(Gn (false) (k) (i) (ps) (nx) (h) (t) (l))))) (.p (.c 1) (.s (l.length≤200) (.s (k=l.length) (.e (inB l i) (.lf (Ex.ret,(Gn (false) (k) (i) (ps) (nx) (h) (t) (l)))) (.s (l.length=l.length) (.s (k=l.length) (.s ((k+1)*8≤17592186044416) (.s (decide (i< ↑(nx.length))=true) (.s (decide (0≤i)=true) (.lf (Ex.normal,(Gn (o) (k+1) (nx.getD i.toNat 0) (ps) (nx) (h) (t) (l ++ [i])))))))))))))))) (.lf (Ex.exit 0,(Gn (o) (k) (i) (ps) (nx) (h) (t) (l))))
theorem Kz (o:Bool) (k:Nat) (i:Int) (ps nx:List Int) (h t:Int) (l:List Int) (σ:St) (e:Ex) (h0:Rg 70 0 e σ (FD o k i ps nx h t l) [true,true]) (h1:Rg 70 0 e σ (FD o k i ps nx h t l) [true,false,true]) (h2:Rg 70 0 e σ (FD o k i ps nx h t l) [true,false,false,true]) (h3:Rg 70 0 e σ (FD o k i ps nx h t l) [true,false,false,false]) (h4:Rg 70 0 e σ (FD o k i ps nx h t l) [false]):Rn 70 0 (Gn o k i ps nx h t l).abs e σ:=qH (hX2) [[1,2,3,4,5]] [(32,32),(9001,9001)] (FD o k i ps nx h t l) ⟨fun e0=>⟨h0 e0,fun e1=>⟨h1 e0 e1,fun e2=>⟨h2 e0 e1 e2,h3 e0 e1 e2⟩⟩⟩,h4⟩
def ajz (o:Bool) (k:Nat) (i:Int) (ps nx:List Int) (h t:Int) (l:List Int):Tr D:= .p (.k [Cast.nil 4 9001 1 [.ints .i64 []]]) (.p (.l [[1,2,3,4,5]] [(32,32),(9001,9001)] (Gn false 0 h ps nx h t []) (Ex.exit 0) (Gn o k i ps nx h t l)) (.s (Rl 70 0 (Gn false 0 h ps nx h t []).abs (Ex.exit 0) (Gn o k i ps nx h t l).abs) (.k ((Gn false 0 h ps nx h t []=Gn false 0 h ps nx h t [])) rfl (.s (k=l.length) (.lf (D.aS [D.oc [.ints .i64 l],bo true]))))))
theorem abj (o:Bool) (k:Nat) (i:Int) (ps nx:List Int) (h t:Int) (l:List Int) (res:D) (h0:Az res (ajz o k i ps nx h t l) []):Kl 70 [D.agg [ri ps,ri nx,i64 h,i64 t]] res:=fA (hX2) (ajz o k i ps nx h t l) h0
def ai7 (o:Bool) (k:Nat) (i:Int) (ps nx:List Int) (h t:Int) (l:List Int):Tr D:= .p (.k [Cast.nil 4 9001 1 [.ints .i64 []]]) (.p (.l [[1,2,3,4,5]] [(32,32),(9001,9001)] (Gn false 0 h ps nx h t []) Ex.ret (Gn o k i ps nx h t l)) (.s (Rl 70 0 (Gn false 0 h ps nx h t []).abs (Ex.ret) (Gn o k i ps nx h t l).abs) (.k ((Gn false 0 h ps nx h t []=Gn false 0 h ps nx h t [])) rfl (.lf (D.aS [bZ,bo o])))))
theorem abO (o:Bool) (k:Nat) (i:Int) (ps nx:List Int) (h t:Int) (l:List Int) (res:D) (h0:Az res (ai7 o k i ps nx h t l) []):Kl 70 [D.agg [ri ps,ri nx,i64 h,i64 t]] res:=fA (hX2) (ai7 o k i ps nx h t l) h0
theorem acy (nx:List Int) (us:List Bool) (f:Int) (hn:nx.length≤200):∀ (d:Nat) (i:Int) (l:List Int),QU nx.length l→l.length+d=nx.length+1→
  match chain nx d i l with
  |some l'=>Rn 146 0 (Gg false l.length i nx us f l).abs (.exit 0) (Gg false l'.length (-1) nx us f l').abs
  |none=>∃ (k:Nat) (i':Int) (l':List Int),Rn 146 0 (Gg false l.length i nx us f l).abs .ret (Gg false k i' nx us f l').abs
 |0,i,l,ho,hd=>by
  have:=zW _ _ ho.1 ho.2
  omega
 |d+1,i,l,ho,hd=>by
  have hl:=zW _ _ ho.1 ho.2
  simp only[chain]
  by_cases c1:i=-1
  ·subst c1
   simp only[if_true]
   refine IZ false l.length (-1) nx us f l _ _ ?_ ?_ ?_ ?_ ?_<;>dsimp only[Az,Rg,At,Tr.q,Tr.e,RG,EX]
   ·intro g;rw[aI] at g;exact absurd rfl g
   ·intro g;rw[aI] at g;exact absurd rfl g
   ·intro g;rw[aI] at g;exact absurd rfl g
   ·intro g;rw[aI] at g;exact absurd rfl g
   ·intro _;exact⟨trivial,rfl,rfl⟩
  ·rw[if_neg c1]
   by_cases c2:i<0∨(nx.length:Int)≤i∨i∈l
   ·rw[if_pos c2]
    refine⟨l.length,i,l,IZ false l.length i nx us f l _ _ ?_ ?_ ?_ ?_ ?_⟩
    ·intro _ _;exact⟨trivial,rfl,rfl⟩
    ·intro _ _ _;exact⟨trivial,rfl,rfl⟩
    ·intro _ _ _ _;exact⟨⟨rfl,by omega,trivial⟩,rfl,rfl⟩
    ·intro _ g1 g2 g3
     rw[aX] at g1;rw[dS] at g2;simp only[inB,decide_eq_false_iff_not] at g3
     rcases c2 with c | c | c
     ·omega
     ·omega
     ·exact absurd c g3
    ·intro g;rw[aQ] at g;exact absurd g c1
   ·rw[if_neg c2]
    have hi0:0≤i:=by omega
    have hi1:i<(nx.length:Int):=by omega
    have hi2:i∉l:=fun h=>c2 (.inr (.inr h))
    have ih:=acy nx us f hn d (nx.getD i.toNat 0) (l ++ [i]) (Be ho hi0 hi1 hi2) (by simp;omega)
    have step:∀ (σ:St) (e:Ex),Rn 146 0 (Gg false (l ++ [i]).length (nx.getD i.toNat 0) nx us f (l ++ [i])).abs e σ→Rn 146 0 (Gg false l.length i nx us f l).abs e σ:=by
     intro σ e hr
     refine IZ false l.length i nx us f l σ e ?_ ?_ ?_ ?_ ?_<;>dsimp only[Az,Rg,At,Tr.q,Tr.e,RG,EX]
     ·intro _ g;rw[aP] at g;omega
     ·intro _ _ g;rw[dV] at g;omega
     ·intro _ _ _ g;simp only[inB,decide_eq_true_eq] at g;exact absurd g hi2
     ·intro _ _ _ _
      refine⟨⟨by simpa using hi0,by simpa using hi1,by omega,rfl,rfl,rfl,by omega,trivial⟩,?_⟩
      simpa using hr
     ·intro g;rw[aQ] at g;exact absurd g c1
    cases hch:chain nx d (nx.getD i.toNat 0) (l ++ [i]) with
    |some l'=>rw[hch] at ih;exact step _ _ ih
    |none=>
     rw[hch] at ih
     obtain⟨k,i',l',h⟩:=ih
     exact⟨k,i',l',step _ _ h⟩
def frD (nx:List Int) (f:Int):D:=match chain nx (nx.length+1) f [] with
 |some l=> .aS [oi l,bo true]
 |none=> .aS [.v (.slice none 0 0),bo false]
theorem aoJ (nx:List Int) (us:List Bool) (f:Int) (h:nx.length≤200):Kl 146 [.agg [ri nx,rb us,i64 f]] (frD nx f):=by
 have hr:=acy nx us f h (nx.length+1) f [] (yD _) (by simp)
 unfold frD
 cases hc:chain nx (nx.length+1) f [] with
 |some l=>
  rw[hc] at hr
  exact aah false l.length (-1) nx us f l _ ⟨⟨rfl,au hr,trivial⟩,rfl⟩
 |none=>
  rw[hc] at hr
  obtain⟨k,i,l,hr⟩:=hr
  exact Z7 false k i nx us f l _ ⟨⟨au hr,trivial⟩,rfl⟩
theorem afB (ps nx:List Int) (h t:Int) (hn:nx.length≤200):∀ (d:Nat) (i:Int) (l:List Int),QU nx.length l→l.length+d=nx.length+1→
  match chain nx d i l with
  |some l'=>Rn 70 0 (Gn false l.length i ps nx h t l).abs (.exit 0) (Gn false l'.length (-1) ps nx h t l').abs
  |none=>∃ (k:Nat) (i':Int) (l':List Int),Rn 70 0 (Gn false l.length i ps nx h t l).abs .ret (Gn false k i' ps nx h t l').abs
 |0,i,l,ho,hd=>by
  have:=zW _ _ ho.1 ho.2
  omega
 |d+1,i,l,ho,hd=>by
  have hl:=zW _ _ ho.1 ho.2
  simp only[chain]
  by_cases c1:i=-1
  ·subst c1
   simp only[if_true]
   refine Kz false l.length (-1) ps nx h t l _ _ ?_ ?_ ?_ ?_ ?_<;>dsimp only[Az,Rg,At,Tr.q,Tr.e,RG,FD]
   ·intro g;rw[aI] at g;exact absurd rfl g
   ·intro g;rw[aI] at g;exact absurd rfl g
   ·intro g;rw[aI] at g;exact absurd rfl g
   ·intro g;rw[aI] at g;exact absurd rfl g
   ·intro _;exact⟨trivial,rfl,rfl⟩
  ·rw[if_neg c1]
   by_cases c2:i<0∨(nx.length:Int)≤i∨i∈l
   ·rw[if_pos c2]
    refine⟨l.length,i,l,Kz false l.length i ps nx h t l _ _ ?_ ?_ ?_ ?_ ?_⟩
    ·intro _ _;exact⟨trivial,rfl,rfl⟩
    ·intro _ _ _;exact⟨trivial,rfl,rfl⟩
    ·intro _ _ _ _;exact⟨⟨rfl,by omega,trivial⟩,rfl,rfl⟩
    ·intro _ g1 g2 g3
     rw[aX] at g1;rw[dS] at g2;simp only[inB,decide_eq_false_iff_not] at g3
     rcases c2 with c | c | c
     ·omega
     ·omega
     ·exact absurd c g3
    ·intro g;rw[aQ] at g;exact absurd g c1
   ·rw[if_neg c2]
    have hi0:0≤i:=by omega
    have hi1:i<(nx.length:Int):=by omega
    have hi2:i∉l:=fun hh=>c2 (.inr (.inr hh))
    have ih:=afB ps nx h t hn d (nx.getD i.toNat 0) (l ++ [i]) (Be ho hi0 hi1 hi2) (by simp;omega)
    have step:∀ (σ:St) (e:Ex),Rn 70 0 (Gn false (l ++ [i]).length (nx.getD i.toNat 0) ps nx h t (l ++ [i])).abs e σ→Rn 70 0 (Gn false l.length i ps nx h t l).abs e σ:=by
     intro σ e hr
     refine Kz false l.length i ps nx h t l σ e ?_ ?_ ?_ ?_ ?_<;>dsimp only[Az,Rg,At,Tr.q,Tr.e,RG,FD]
     ·intro _ g;rw[aP] at g;omega
     ·intro _ _ g;rw[dV] at g;omega
     ·intro _ _ _ g;simp only[inB,decide_eq_true_eq] at g;exact absurd g hi2
     ·intro _ _ _ _
      refine⟨⟨by simpa using hi0,by simpa using hi1,by omega,rfl,rfl,rfl,by omega,trivial⟩,?_⟩
      simpa using hr
     ·intro g;rw[aQ] at g;exact absurd g c1
    cases hch:chain nx d (nx.getD i.toNat 0) (l ++ [i]) with
    |some l'=>rw[hch] at ih;exact step _ _ ih
    |none=>
     rw[hch] at ih
     obtain⟨k,i',l',hh⟩:=ih
     exact⟨k,i',l',step _ _ hh⟩
theorem anX (ps nx:List Int) (h t:Int) (hn:nx.length≤200):Kl 70 [.agg [ri ps,ri nx,i64 h,i64 t]] (frD nx h):=by
 have hr:=afB ps nx h t hn (nx.length+1) h [] (yD _) (by simp)
 unfold frD
 cases hc:chain nx (nx.length+1) h [] with
 |some l=>
  rw[hc] at hr
  exact abj false l.length (-1) ps nx h t l _ ⟨⟨rfl,au hr,trivial⟩,rfl⟩
 |none=>
  rw[hc] at hr
  obtain⟨k,i,l,hr⟩:=hr
  exact abO false k i ps nx h t l _ ⟨⟨au hr,trivial⟩,rfl⟩
def ajL (k:Int):Tr D:= .q (true) (.lf (i64 (IntKind.i64.wrap (ai .shr .u32 (ai .mul .u32 k 2654435769) 28))))
theorem ZQ (k:Int) (res:D) (h0:Az res (ajL k) []):Kl 162 [u32 k] res:=fA (hX2) (ajL k) h0
def ajQ (k:Int):Tr D:= .q (false) (.q (false) (.lf (i64 (IntKind.i64.wrap (ai .quo .u64 (ai .rem .u64 (ai .mul .u64 (IntKind.u64.wrap k) 2654435769) 4294967296) 268435456)))))
theorem aae (k:Int) (res:D) (h0:Az res (ajQ k) []):Kl 151 [u32 k] res:=fA (hX2) (ajQ k) h0
def ajS (xs:List Int) (n:Int):Tr D:= .s (xs.length≤200) (.lf (D.v (Value.bool (ah .geq (ixN xs n) 0))))
theorem aaE (xs:List Int) (n:Int) (res:D) (h0:Az res (ajS xs n) []):Kl 102 [ri xs,i64 n] res:=fA (hX2) (ajS xs n) h0
def cO (k:Int):Int:=k*2654435769%4294967296 / 268435456
def eX (k:Int):Prop:=0≤k∧k<4294967296
theorem kC {k:Int} (h:eX k):0≤cO k∧cO k<16:=by unfold cO;omega
theorem aoG {a:Int} (h0:0≤a) (h1:a<4294967296):ai .shr .u32 a 28=a / 268435456:=by
 show a.fdiv (2 ^ min (28:Int).toNat 32)=_
 rw[Int.fdiv_eq_ediv_of_nonneg _ (by decide)];rfl
theorem Yy {k:Int} (h:eX k):IntKind.i64.wrap (ai .shr .u32 (ai .mul .u32 k 2654435769) 28)=cO k:=by
 obtain⟨h0,h1⟩:=h
 rw[mO,wrap_u32,aoG (by omega) (by omega),aY (by omega) (by omega)];rfl
theorem amm (k:Int) (h:eX k):Kl 162 [u32 k] (i64 (cO k)):=ZQ k _ ⟨trivial,by rw[Yy h]⟩
theorem aj7 (k:Int) (h:eX k):Kl 151 [u32 k] (i64 (cO k)):=by
 refine aae k _ ⟨trivial,?_⟩
 obtain⟨h0,h1⟩:=h
 rw[bC (by omega) (by omega),mO,bC (by omega) (by omega),Gj _ (by omega),PL _ (by omega),bC (by omega) (by omega),aY (by omega) (by omega)];rfl
theorem adT {i:Int} (h0:0≤i) (h1:i≤16):ai .and .i64 i 15=i%16:=by
 have:i.toNat≤16:=by omega
 obtain⟨n,rfl⟩:=Int.eq_ofNat_of_zero_le h0
 have:n≤16:=by omega
 clear h0 h1
 rcases n with _|_|_|_|_|_|_|_|_|_|_|_|_|_|_|_|_|n<;>first | rfl | (exfalso;omega)
theorem anC (xs:List Int) (n:Int) (h:xs.length≤200):Kl 102 [ri xs,i64 n] (bo (inB xs n)):=by
 refine aaE xs n _ ⟨⟨h,trivial⟩,?_⟩
 congr 2
 unfold inB
 rw[Nz]
 have e:ixN xs n=iW (fun i=>xs.getD i 0 ==n) xs.length 0:=by
  unfold ixN;congr 1;funext i;exact Bool.beq_comm ..
 rw[e,Bool.eq_iff_iff]
 simp only[dV,Bool.not_eq_true',decide_eq_false_iff_not]
 omega
def bM (nx:List Int) (f:Int):List Int:=(chain nx (nx.length+1) f []).getD []
def KU (nx:List Int) (f:Int):Bool:=(chain nx (nx.length+1) f []).isSome
theorem Nv (nx:List Int) (f:Int):jW (frD nx f) (.aS [oi (bM nx f),bo (KU nx f)]):=by
 unfold frD bM KU
 cases chain nx (nx.length+1) f [] with
 |some l=>exact .refl _
 |none=>exact bH.aS (.cons (.nil rfl) (.refl _))
theorem akl (nx:List Int) (us:List Bool) (f:Int) (h:nx.length≤200):Kl 146 [.agg [ri nx,rb us,i64 f]] (.aS [oi (bM nx f),bo (KU nx f)]):=bf (Nv nx f) (aoJ nx us f h)
theorem alg (ps nx:List Int) (h t:Int) (hn:nx.length≤200):Kl 70 [.agg [ri ps,ri nx,i64 h,i64 t]] (.aS [oi (bM nx h),bo (KU nx h)]):=bf (Nv nx h) (anX ps nx h t hn)
def hmC:List D→Option (D×List Prop)
 |[.v (.int .u32 k)]=>some (i64 (cO k),[eX k])
 |_=>none
theorem agH (args res l) (h:hmC args=some (res,l)) (hl:aJ l):Kl 162 args res:=by
 unfold hmC at h;split at h
 ·obtain⟨rfl,rfl⟩:=dB h;obtain⟨h0,_⟩:=hl
  exact amm _ h0
 ·cases h
theorem ahY (args res l) (h:hmC args=some (res,l)) (hl:aJ l):Kl 151 args res:=by
 unfold hmC at h;split at h
 ·obtain⟨rfl,rfl⟩:=dB h;obtain⟨h0,_⟩:=hl
  exact aj7 _ h0
 ·cases h
def frC:List D→Option (D×List Prop)
 |[.agg [.rc [.ints .i64 nx], .rc [.bools us], .v (.int .i64 f)]]=>some ((.aS [oi (bM nx f),bo (KU nx f)]),[nx.length≤200])
 |_=>none
theorem akJ (args res l) (h:frC args=some (res,l)) (hl:aJ l):Kl 146 args res:=by
 unfold frC at h;split at h
 ·obtain⟨rfl,rfl⟩:=dB h;obtain⟨h0,_⟩:=hl
  exact akl _ _ _ h0
 ·cases h
def alC:List D→Option (D×List Prop)
 |[.agg [.rc [.ints .i64 ps], .rc [.ints .i64 nx], .v (.int .i64 h), .v (.int .i64 t)]]=>some ((.aS [oi (bM nx h),bo (KU nx h)]),[nx.length≤200])
 |_=>none
theorem akG (args res l) (h:alC args=some (res,l)) (hl:aJ l):Kl 70 args res:=by
 unfold alC at h;split at h
 ·obtain⟨rfl,rfl⟩:=dB h;obtain⟨h0,_⟩:=hl
  exact alg _ _ _ _ h0
 ·cases h
theorem akf (args res l) (h:Vj args=some (res,l)) (hl:aJ l):Kl 102 args res:=by
 unfold Vj at h;split at h
 ·obtain⟨rfl,rfl⟩:=dB h;obtain⟨h0,_⟩:=hl
  exact anC _ _ h0
 ·cases h
def X3:aB:=aF 162 (.call hmC) (aF 151 (.call hmC) (aF 102 (.call Vj) (aF 146 (.call frC) (aF 70 (.call alC) X2))))
theorem hX3:bT Pg X3:=aj agH (aj ahY (aj akf (aj akJ (aj akG hX2))))
theorem amu (n:Int) (xs:List Int) (i:Int) (j k:Nat) (ps nx:List Int):gY Pg (X2) 100000 (dh Pg 137 0) [.d true] [[0,1,4,5,6]] [(128,128),(160,160),(544,9001),(672,9002)] (XJ n xs i j k ps nx)=some (Ex.normal,(XJ (n) (xs) (ai .add .i64 i 1) (j+1) (k+1) (ps ++ [-1]) (nx ++ [-1])),[(k+1)*8≤17592186044416,k=nx.length,nx.length=nx.length,(j+1)*8≤17592186044416,j=ps.length,ps.length=ps.length,ah .lss i n=true]):=by kernel_rfl
theorem aln (n:Int) (xs:List Int) (i:Int) (j k:Nat) (ps nx:List Int):gY Pg (X2) 100000 (dh Pg 137 0) [.d false] [[0,1,4,5,6]] [(128,128),(160,160),(9001,9001),(9002,9002)] (XJ n xs i j k ps nx)=some (Ex.exit 0,(XJ (n) (xs) (i) (j) (k) (ps) (nx)),[ah .lss i n=false]):=by kernel_rfl
theorem Ti (n:Int) (xs:List Int) (i:Int) (j k:Nat) (ps nx:List Int) (σ:St) (e:Ex)
 (h0:((ah .lss i n)=true)→(((k+1)*8≤17592186044416)∧(k=nx.length)∧(nx.length=nx.length)∧((j+1)*8≤17592186044416)∧(j=ps.length)∧(ps.length=ps.length)∧True)∧Rn 137 0 (XJ (n) (xs) (ai .add .i64 i 1) (j+1) (k+1) (ps ++ [-1]) (nx ++ [-1])).abs e σ)
 (h1:((ah .lss i n)=false)→(True)∧(e=Ex.exit 0∧σ=(XJ (n) (xs) (i) (j) (k) (ps) (nx)).abs)):Rn 137 0 (XJ n xs i j k ps nx).abs e σ:=by
 cases e0:(ah .lss i n) with
 |true=>
  obtain⟨⟨k0,k1,k2,k3,k4,k5,_⟩,kr⟩:=h0 e0
  exact jB (hX2) (amu n xs i j k ps nx) ⟨k0,k1,k2,k3,k4,k5,e0,trivial⟩ kr
 |false=>
  obtain⟨_,kr⟩:=h1 e0
  exact jH (hX2) (aln n xs i j k ps nx) ⟨e0,trivial⟩ (by simp) kr
def DT (xs:List Int) (i:Int) (j k:Nat) (h t:Int) (ps nx:List Int):Tr (Ex×Cs):= .e (ah .lss i ↑(xs.length)) (.e (ah .eql i 0) (.s (decide (i< ↑(xs.length))=true) (.s (decide (0≤i)=true) (.s (decide (i< ↑(xs.length))=true) (.s (decide (0≤i)=true) (.lf (Ex.normal,(Ky (xs) (ai .add .i64 i 1) (j) (k) (xs.getD i.toNat 0) (xs.getD i.toNat 0) (ps) (nx)))))))) (.s (decide (i< ↑(xs.length))=true) (.s (decide (0≤i)=true) (.s (decide (ai .sub .i64 i 1< ↑(xs.length))=true) (.s (decide (0≤ai .sub .i64 i 1)=true) (.s (decide (xs.getD i.toNat 0< ↑j)=true) (.s (decide (0≤xs.getD i.toNat 0)=true) (.s (ps.length=ps.length) (.s ((xs.getD i.toNat 0).toNat<ps.length) (.s (decide (ai .sub .i64 i 1< ↑(xs.length))=true) (.s (decide (0≤ai .sub .i64 i 1)=true) (.s (decide (i< ↑(xs.length))=true) (.s (decide (0≤i)=true) (.s (decide (xs.getD (ai .sub .i64 i 1).toNat 0< ↑k)=true) (.s (decide (0≤xs.getD (ai .sub .i64 i 1).toNat 0)=true) (.s (nx.length=nx.length) (.s ((xs.getD (ai .sub .i64 i 1).toNat 0).toNat<nx.length) (.s (decide (i< ↑(xs.length))=true) (.s (decide (0≤i)=true) (.lf (Ex.normal,(Ky (xs) (ai .add .i64 i 1) (j) (k) (h) (xs.getD i.toNat 0) (ps.set (xs.getD i.toNat 0).toNat (xs.getD (ai .sub .i64 i 1).toNat 0)) (nx.set (xs.getD (ai .sub .i64 i 1).toNat 0).toNat (xs.getD i.toNat 0)))))))))))))))))))))))) (.lf (Ex.exit 2,(Ky (xs) (i) (j) (k) (h) (t) (ps) (nx))))
theorem N8 (xs:List Int) (i:Int) (j k:Nat) (h t:Int) (ps nx:List Int) (σ:St) (e:Ex) (h0:Rg 137 1 e σ (DT xs i j k h t ps nx) [true,true]) (h1:Rg 137 1 e σ (DT xs i j k h t ps nx) [true,false]) (h2:Rg 137 1 e σ (DT xs i j k h t ps nx) [false]):Rn 137 1 (Ky xs i j k h t ps nx).abs e σ:=qH (hX2) [[1,4,5,7]] [(128,128),(160,160),(9001,9001),(9002,9002)] (DT xs i j k h t ps nx) ⟨fun e0=>⟨h0 e0,h1 e0⟩,h2⟩
def ajN (n:Int) (xs:List Int) (i i2:Int) (j k:Nat) (h t:Int) (ps nx ps2 nx2:List Int):Tr D:= .p (.k [Cast.cnil 160 0 9001 1 [.ints .i64 []],Cast.cnil 160 1 9002 1 [.ints .i64 []]]) (.p (.l [[0,1,4,5,6]] [(128,128),(160,160),(9001,9001),(9002,9002)] (XJ n xs 0 0 0 [] []) (Ex.exit 0) (XJ n xs i j k ps nx)) (.p (.l [[1,4,5,7]] [(128,128),(160,160),(9001,9001),(9002,9002)] (Ky xs 0 j k (-1) (-1) ps nx) (Ex.exit 2) (Ky xs i2 j k h t ps2 nx2)) (.s (Rl 137 0 (XJ n xs 0 0 0 [] []).abs (Ex.exit 0) (XJ n xs i j k ps nx).abs) (.k ((XJ n xs 0 0 0 [] []=XJ n xs 0 0 0 [] [])) rfl (.s (Rl 137 1 (Ky xs 0 j k (-1) (-1) ps nx).abs (Ex.exit 2) (Ky xs i2 j k h t ps2 nx2).abs) (.k ((Ky xs 0 j k (-1) (-1) ps nx=Ky xs 0 j k (-1) (-1) ps nx)) rfl (.s (k=nx2.length) (.s (j=ps2.length) (.lf (D.agg [D.oc [.ints .i64 ps2],D.oc [.ints .i64 nx2],i64 h,i64 t]))))))))))
theorem aat (n:Int) (xs:List Int) (i i2:Int) (j k:Nat) (h t:Int) (ps nx ps2 nx2:List Int) (res:D) (h0:Az res (ajN n xs i i2 j k h t ps nx ps2 nx2) []):Kl 137 [i64 n,ri xs] res:=fA (hX2) (ajN n xs i i2 j k h t ps nx ps2 nx2) h0
def Ad (n:Nat) (xs:List Int):Nat→List Int
 |0=>List.replicate n (-1)
 |i+1=>if i=0 then Ad n xs i else(Ad n xs i).set (xs.getD i 0).toNat (xs.getD (i - 1) 0)
def zh (n:Nat) (xs:List Int):Nat→List Int
 |0=>List.replicate n (-1)
 |i+1=>if i=0 then zh n xs i else(zh n xs i).set (xs.getD (i - 1) 0).toNat (xs.getD i 0)
def U9 (xs:List Int) (i:Nat):Int:=if i=0 then -1 else xs.getD 0 0
def IK (xs:List Int) (i:Nat):Int:=if i=0 then -1 else xs.getD (i - 1) 0
theorem AB (n:Nat) (xs:List Int):∀ i,(Ad n xs i).length=n
 |0=>by simp[Ad]
 |i+1=>by simp only[Ad];split<;>simp[AB n xs i]
theorem AU (n:Nat) (xs:List Int):∀ i,(zh n xs i).length=n
 |0=>by simp[zh]
 |i+1=>by simp only[zh];split<;>simp[AU n xs i]
def mdS (n:Int) (xs:List Int):Prop:=0≤n∧n≤200∧xs.length≤200∧∀ x∈xs,0≤x∧x<n
theorem ajM (n:Int) (xs:List Int) (h:mdS n xs):Kl 137 [i64 n,ri xs] (.agg [oi (Ad n.toNat xs xs.length),oi (zh n.toNat xs xs.length),i64 (U9 xs xs.length),i64 (IK xs xs.length)]):=by
 obtain⟨h0,h1,h2,h3⟩:=h
 have hx:∀ i,i<xs.length→0≤xs.getD i 0∧xs.getD i 0<n:=fun i hi=>by
  rw[List.getD_eq_getElem?_getD,List.getElem?_eq_getElem hi]
  exact h3 _ (List.getElem_mem hi)
 refine aat n xs n xs.length n.toNat n.toNat (U9 xs xs.length) (IK xs xs.length) (Ad n.toNat xs 0) (zh n.toNat xs 0) (Ad n.toNat xs xs.length) (zh n.toNat xs xs.length) _ ⟨⟨(AB _ _ _).symm,(AU _ _ _).symm,au ?_,au ?_,trivial⟩,rfl⟩
 ·refine fF (fun i=>Ky xs (i:Int) n.toNat n.toNat (U9 xs i) (IK xs i) (Ad n.toNat xs i) (zh n.toNat xs i)) xs.length (fun _=>True) (fun i hi _ σ e hr=>?_) ?_ xs.length 0 (by omega) (fun _ _ _=>trivial)
  ·obtain⟨y0,y1⟩:=hx i hi
   refine N8 xs i n.toNat n.toNat _ _ _ _ σ e ?_ ?_ ?_<;>dsimp only[Az,Rg,At,Tr.q,Tr.e,RG,DT]
   ·intro _ g
    rw[bY] at g
    obtain rfl:i=0:=by omega
    rw[dW hi h2,Int.toNat_natCast]
    exact⟨⟨(aA hi).1,(aA hi).2,(aA hi).1,(aA hi).2,trivial⟩,hr⟩
   ·intro _ g
    rw[bV] at g
    have hi0:i≠0:=by omega
    have hp:ai .sub .i64 (i:Int) 1=((i - 1:Nat):Int):=by
     rw[dG,aY (by omega) (by omega)];omega
    obtain⟨z0,z1⟩:=hx (i - 1) (by omega)
    rw[dW hi h2,hp,Int.toNat_natCast,Int.toNat_natCast]
    have e1:Ad n.toNat xs (i+1)=(Ad n.toNat xs i).set (xs.getD i 0).toNat (xs.getD (i - 1) 0):=by simp only[Ad,if_neg hi0]
    have e2:zh n.toNat xs (i+1)=(zh n.toNat xs i).set (xs.getD (i - 1) 0).toNat (xs.getD i 0):=by simp only[zh,if_neg hi0]
    have e3:U9 xs (i+1)=U9 xs i:=by simp only[U9,if_neg hi0];rfl
    have e4:IK xs (i+1)=xs.getD i 0:=by simp only[IK];rfl
    rw[e1,e2,e3,e4] at hr
    have n1:=aA hi
    have n2:decide (0≤((i - 1:Nat):Int))=true∧decide (((i - 1:Nat):Int)<(xs.length:Int))=true:=aA (by omega)
    have l1:=AB n.toNat xs i
    have l2:=AU n.toNat xs i
    refine⟨⟨n1.1,n1.2,by omega,rfl,by simpa using z0,?_,n1.1,n1.2,n2.1,n2.2,by omega,rfl,by simpa using y0,?_,n2.1,n2.2,n1.1,n1.2,trivial⟩,hr⟩
    ·rw[decide_eq_true_eq];omega
    ·rw[decide_eq_true_eq];omega
   ·intro g;rw[aX] at g;omega
  ·refine N8 xs xs.length n.toNat n.toNat _ _ _ _ _ _ ?_ ?_ ?_<;>dsimp only[Az,Rg,At,Tr.q,Tr.e,RG,DT]
   ·intro g;rw[aP] at g;omega
   ·intro g;rw[aP] at g;omega
   ·intro _;exact⟨trivial,rfl,rfl⟩
 ·have hn:((n.toNat:Nat):Int)=n:=by omega
  have key:=fF (P:=Pg) (F:=CallsD Pg) (b:=dh Pg 137 0) (fun i=>XJ n xs (i:Int) i i (List.replicate i (-1)) (List.replicate i (-1))) n.toNat (fun _=>True) (fun i hi _ σ e hr=>?_) (σ:=(XJ n xs n n.toNat n.toNat (Ad n.toNat xs 0) (zh n.toNat xs 0)).abs) (e:= .exit 0) ?_ n.toNat 0 (by omega) (fun _ _ _=>trivial)
  ·exact key
  ·refine Ti n xs i i i _ _ σ e ?_ ?_
   ·intro _
    rw[dW hi (by omega)]
    refine⟨⟨by omega,by simp,rfl,by omega,by simp,rfl,trivial⟩,?_⟩
    rw[←List.replicate_succ'];exact hr
   ·intro g;rw[aX] at g;omega
  ·rw[hn]
   refine Ti n xs n n.toNat n.toNat _ _ _ _ ?_ ?_
   ·intro g;rw[aP] at g;omega
   ·intro _;exact⟨trivial,rfl,rfl⟩
def mdC:List D→Option (D×List Prop)
 |[.v (.int .i64 n), .rc [.ints .i64 xs]]=>some ((.agg [oi (Ad n.toNat xs xs.length),oi (zh n.toNat xs xs.length),i64 (U9 xs xs.length),i64 (IK xs xs.length)]),[mdS n xs])
 |_=>none
theorem alv (args res l) (h:mdC args=some (res,l)) (hl:aJ l):Kl 137 args res:=by
 unfold mdC at h;split at h
 ·obtain⟨rfl,rfl⟩:=dB h;obtain⟨h0,_⟩:=hl
  exact ajM _ _ h0
 ·cases h
def IB (xs ys:List Int) (zs:List Bool) (k i n:Int):Tr (Ex×Cs):= .s (decide (i< ↑(xs.length))=true) (.s (decide (0≤i)=true) (.e (zs.getD i.toNat false) (.p (.c 5) (.s (decide (i< ↑(xs.length))=true) (.s (decide (0≤i)=true) (.e (ah .neq (xs.getD i.toNat 0) k) (.lf (Ex.normal,(lkT (xs) (ys) (zs) (k) (ai .and .i64 (ai .add .i64 i 1) 15) (ai .add .i64 n 1)))) (.lf (Ex.exit 0,(lkT (xs) (ys) (zs) (k) (i) (n)))))))) (.p (.c 6) (.lf (Ex.exit 0,(lkT (xs) (ys) (zs) (k) (i) (n)))))))
theorem Ib (xs ys:List Int) (zs:List Bool) (k i n:Int) (σ:St) (e:Ex) (h0:Rg 125 0 e σ (IB xs ys zs k i n) [true,true]) (h1:Rg 125 0 e σ (IB xs ys zs k i n) [true,false]) (h2:Rg 125 0 e σ (IB xs ys zs k i n) [false]):Rn 125 0 (lkT xs ys zs k i n).abs e σ:=qH (hX1) [[0,1,4,5]] [] (IB xs ys zs k i n) ⟨fun e0=>⟨h0 e0,h1 e0⟩,h2⟩
def Ip (k:Int):=ai .shr .u32 (ai .mul .u32 k 2654435769) 28
def ajB (xs ys:List Int) (zs:List Bool) (k i n:Int):Tr D:= .p (.l [[0,1,4,5]] [] (lkT xs ys zs k (IntKind.i64.wrap (Ip k)) 0) (Ex.exit 0) (lkT xs ys zs k i n)) (.q (true) (.s (Rl 125 0 (lkT xs ys zs k (IntKind.i64.wrap (Ip k)) 0).abs (Ex.exit 0) (lkT xs ys zs k i n).abs) (.k ((lkT xs ys zs k (IntKind.i64.wrap (Ip k)) 0=lkT xs ys zs k (IntKind.i64.wrap (Ip k)) 0)) rfl (.lf (D.aS [i64 i,i64 (ai .add .i64 n 1)])))))
theorem aaO (xs ys:List Int) (zs:List Bool) (k i n:Int) (res:D) (h0:Az res (ajB xs ys zs k i n) []):Kl 125 [cc xs ys zs,u32 k] res:=fA (hX1) (ajB xs ys zs k i n) h0
def Y7 (xs:List Int) (zs:List Bool) (k:Int):Nat→Nat→Nat→Nat×Nat
 |0,i,n=>(i,n)
 |d+1,i,n=>if zs.getD i false=true∧xs.getD i 0≠k then Y7 xs zs k d ((i+1)%16) (n+1) else(i,n)
theorem XR {xs:List Int} {zs:List Bool} {k:Int}:∀ (d i n:Nat),i<16→(Y7 xs zs k d i n).1<16∧(Y7 xs zs k d i n).2≤n+d
 |0,i,n,h=>⟨h,Nat.le_refl _⟩
 |d+1,i,n,h=>by
  simp only[Y7]
  split
  ·have:=XR (xs:=xs) (zs:=zs) (k:=k) d ((i+1)%16) (n+1) (by omega)
   exact⟨this.1,by omega⟩
  ·exact⟨h,by show n≤_;omega⟩
theorem am8 (xs ys:List Int) (zs:List Bool) (k:Int) (hx:xs.length=16):∀ (D d i n:Nat),d≤D→i<16→n+D≤100→zs.getD ((i+d)%16) false=false→
  Rn 125 0 (lkT xs ys zs k i n).abs (.exit 0) (lkT xs ys zs k (Y7 xs zs k D i n).1 (Y7 xs zs k D i n).2).abs:=by
 intro D
 induction D with
 |zero=>
  intro d i n hd hi hn hz
  obtain rfl:d=0:=by omega
  rw[Nat.add_zero,Nat.mod_eq_of_lt hi] at hz
  have b:=aA (n:=xs.length) (i:=i) (by omega)
  refine Ib xs ys zs k i n _ _ ?_ ?_ ?_<;>dsimp only[Az,Rg,At,Tr.q,Tr.e,RG,IB]
  ·intro g;rw[Int.toNat_natCast,hz] at g;cases g
  ·intro g;rw[Int.toNat_natCast,hz] at g;cases g
  ·intro _;exact⟨⟨b.1,b.2,trivial⟩,rfl,rfl⟩
 |succ D ih=>
  intro d i n hd hi hn hz
  have b:=aA (n:=xs.length) (i:=i) (by omega)
  by_cases c:zs.getD i false=true∧xs.getD i 0≠k
  ·have hd0:d≠0:=fun e=>by
    subst e
    rw[Nat.add_zero,Nat.mod_eq_of_lt hi,c.1] at hz;cases hz
   have r:=ih (d - 1) ((i+1)%16) (n+1) (by omega) (by omega) (by omega) (by rw[←hz];congr 1;omega)
   have e1:ai .and .i64 (ai .add .i64 (i:Int) 1) 15=(((i+1)%16:Nat):Int):=by
    rw[dH,aY (by omega) (by omega),adT (by omega) (by omega)];omega
   have e2:ai .add .i64 (n:Int) 1=((n+1:Nat):Int):=by
    rw[dH,aY (by omega) (by omega)];omega
   simp only[Y7,if_pos c]
   refine Ib xs ys zs k i n _ _ ?_ ?_ ?_<;>dsimp only[Az,Rg,At,Tr.q,Tr.e,RG,IB]
   ·intro _ _;rw[e1,e2];exact⟨⟨b.1,b.2,b.1,b.2,trivial⟩,r⟩
   ·intro _ g;rw[Int.toNat_natCast,aQ] at g;exact absurd g c.2
   ·intro g;rw[Int.toNat_natCast,c.1] at g;cases g
  ·simp only[Y7,if_neg c]
   refine Ib xs ys zs k i n _ _ ?_ ?_ ?_<;>dsimp only[Az,Rg,At,Tr.q,Tr.e,RG,IB]
   ·intro g1 g2;rw[Int.toNat_natCast] at g1;rw[Int.toNat_natCast,aI] at g2;exact absurd ⟨g1,g2⟩ c
   ·intro _ _;exact⟨⟨b.1,b.2,b.1,b.2,trivial⟩,rfl,rfl⟩
   ·intro _;exact⟨⟨b.1,b.2,trivial⟩,rfl,rfl⟩
def Vy (xs:List Int) (zs:List Bool) (k:Int):Prop:=xs.length=16∧eX k∧∃ j,j<16∧zs.getD j false=false
def dn (xs:List Int) (zs:List Bool) (k:Int):Nat:=(Y7 xs zs k 16 (cO k).toNat 0).1
def lkC (xs:List Int) (zs:List Bool) (k:Int):Nat:=(Y7 xs zs k 16 (cO k).toNat 0).2+1
theorem aoV (xs ys:List Int) (zs:List Bool) (k:Int) (h:Vy xs zs k):Kl 125 [cc xs ys zs,u32 k] (.aS [i64 (dn xs zs k),i64 (lkC xs zs k)]):=by
 obtain⟨hx,hk,j,hj,hz⟩:=h
 have hh:=kC hk
 have r:=am8 xs ys zs k hx 16 ((j+16 - (cO k).toNat)%16) (cO k).toNat 0 (by omega) (by omega) (by omega) (by rw[←hz];congr 1;omega)
 have hw:=XR (xs:=xs) (zs:=zs) (k:=k) 16 (cO k).toNat 0 (by omega)
 refine aaO xs ys zs k (dn xs zs k) (Y7 xs zs k 16 (cO k).toNat 0).2 _ ⟨⟨?_,trivial⟩,?_⟩
 ·unfold Ip;rw[Yy hk]
  have e:cO k=(((cO k).toNat:Nat):Int):=by omega
  have r':=au r
  rw[←e] at r'
  exact r'
 ·rw[dH,aY (by omega) (by omega)]
  simp only[lkC,Int.natCast_add];rfl
def akc:List D→Option (D×List Prop)
 |[.rc [.ints .u32 xs, .ints .i64 ys, .bools zs], .v (.int .u32 k)]=>some ((.aS [i64 (dn xs zs k),i64 (lkC xs zs k)]),[Vy xs zs k])
 |_=>none
theorem ahr (args res l) (h:akc args=some (res,l)) (hl:aJ l):Kl 125 args res:=by
 unfold akc at h;split at h
 ·obtain⟨rfl,rfl⟩:=dB h;obtain⟨h0,_⟩:=hl
  exact aoV _ _ _ _ h0
 ·cases h
def X4:aB:=aF 125 (.call akc) (aF 137 (.call mdC) X3)
theorem VZ:bT Pg X4:=aj ahr (aj alv hX3)
def ES (r n i:Int) (k:Nat) (xs:List Int) (us:List Bool) (f:Int) (ys:List Bool):Tr (Ex×Cs):= .e (ah .neq i (-1)) (.e (ah .lss i 0) (.p (.c 6) (.lf (Ex.ret,(Am (8) (n) (i) (k) (xs) (us) (f) (ys))))) (.p (.c 1) (.e (ah .geq i n) (.p (.c 3) (.lf (Ex.ret,(Am (8) (n) (i) (k) (xs) (us) (f) (ys))))) (.p (.c 2) (.s (decide (i< ↑k)=true) (.s (decide (0≤i)=true) (.s (i.toNat<ys.length) (.e (ys.getD i.toNat false) (.lf (Ex.ret,(Am (8) (n) (i) (k) (xs) (us) (f) (ys)))) (.s (decide (i< ↑k)=true) (.s (decide (0≤i)=true) (.s (ys.length=ys.length) (.s (i.toNat<ys.length) (.s (decide (i< ↑(xs.length))=true) (.s (decide (0≤i)=true) (.lf (Ex.normal,(Am (r) (n) (xs.getD i.toNat 0) (k) (xs) (us) (f) (ys.set i.toNat true)))))))))))))))))) (.lf (Ex.exit 0,(Am (r) (n) (i) (k) (xs) (us) (f) (ys))))
theorem G5 (r n i:Int) (k:Nat) (xs:List Int) (us:List Bool) (f:Int) (ys:List Bool) (σ:St) (e:Ex) (h0:Rg 99 0 e σ (ES r n i k xs us f ys) [true,true]) (h1:Rg 99 0 e σ (ES r n i k xs us f ys) [true,false,true]) (h2:Rg 99 0 e σ (ES r n i k xs us f ys) [true,false,false,true]) (h3:Rg 99 0 e σ (ES r n i k xs us f ys) [true,false,false,false]) (h4:Rg 99 0 e σ (ES r n i k xs us f ys) [false]):Rn 99 0 (Am r n i k xs us f ys).abs e σ:=qH (hX1) [[1,2,3,4,5]] [(32,32),(832,832)] (ES r n i k xs us f ys) ⟨fun e0=>⟨h0 e0,fun e1=>⟨h1 e0 e1,fun e2=>⟨h2 e0 e1 e2,h3 e0 e1 e2⟩⟩⟩,h4⟩
def Gf (r:Int) (k:Nat) (us0:List Bool) (m i:Int) (xs:List Int) (us:List Bool) (f:Int) (ys:List Bool):=vJ (r) (k) (us0) (m) (ai .add .i64 i 1) (xs) (us) (f) (ys)
def sO (r:Int) (k:Nat) (us0:List Bool) (m i:Int) (xs:List Int) (us:List Bool) (f:Int) (ys:List Bool):Tr (Ex×Cs):= .e (ah .lss i m) (.s (decide (i< ↑(us0.length))=true) (.s (decide (0≤i)=true) (.s (decide (i< ↑k)=true) (.s (decide (0≤i)=true) (.s (i.toNat<ys.length) (.e (!ys.getD i.toNat false) (.p (.c 2) (.lf (Ex.ret,(vJ (8) (k) (us0) (m) (i) (xs) (us) (f) (ys))))) (.p (.c 0) (.e (us0.getD i.toNat false) (.p (.c 5) (.s (decide (i< ↑(xs.length))=true) (.s (decide (0≤i)=true) (.e (ah .neq (xs.getD i.toNat 0) (-1)) (.lf (Ex.ret,(vJ (8) (k) (us0) (m) (i) (xs) (us) (f) (ys)))) (.lf (Ex.normal,(Gf r k us0 m i xs us f ys))))))) (.p (.c 6) (.lf (Ex.normal,(Gf r k us0 m i xs us f ys)))))))))))) (.lf (Ex.exit 2,(vJ (r) (k) (us0) (m) (i) (xs) (us) (f) (ys))))
theorem CU (r:Int) (k:Nat) (us0:List Bool) (m i:Int) (xs:List Int) (us:List Bool) (f:Int) (ys:List Bool) (σ:St) (e:Ex) (h0:Rg 99 1 e σ (sO r k us0 m i xs us f ys) [true,true]) (h1:Rg 99 1 e σ (sO r k us0 m i xs us f ys) [true,false,true,true]) (h2:Rg 99 1 e σ (sO r k us0 m i xs us f ys) [true,false,true,false]) (h3:Rg 99 1 e σ (sO r k us0 m i xs us f ys) [true,false,false]) (h4:Rg 99 1 e σ (sO r k us0 m i xs us f ys) [false]):Rn 99 1 (vJ r k us0 m i xs us f ys).abs e σ:=qH (hX2) [[1,2,4,53,54,55]] [(32,32),(832,832)] (sO r k us0 m i xs us f ys) ⟨fun e0=>⟨h0 e0,fun e1=>⟨fun e2=>⟨h1 e0 e1 e2,h2 e0 e1 e2⟩,h3 e0 e1⟩⟩,h4⟩
def Jh (r:Int) (k:Nat) (us0:List Bool) (m i:Int) (xs:List Int) (us:List Bool) (f:Int) (ys:List Bool):Tr D:= .e (ah .lss (↑(xs.length)) 1) (.p (.c 6) (.lf (i64 8))) (.p (.c 0) (.e (ah .gtr (↑(xs.length)) 16) (.p (.c 4) (.lf (i64 8))) (.p (.c 3) (.e (ah .neq ↑(us.length) ↑(xs.length)) (.lf (i64 8)) (.p (.l [[1,2,3,4,5]] [(32,32),(832,832)] (Am 0 (↑(xs.length)) f us.length xs us f us) (Ex.exit 0) (Am 0 (↑(xs.length)) (-1) k xs us f ys)) (.p (.l [[1,2,4,53,54,55]] [(32,32),(832,832)] (vJ 0 k us (↑(us.length)) 0 xs us f ys) (Ex.exit 2) (vJ 0 k us0 m i xs us f ys)) (.s (us.length≤200) (.s (Rl 99 0 (Am 0 (↑(xs.length)) f us.length xs us f us).abs (Ex.exit 0) (Am 0 (↑(xs.length)) (-1) k xs us f ys).abs) (.k ((Am 0 (↑(xs.length)) f us.length xs us f us=Am 0 (↑(xs.length)) f us.length xs us f us)) rfl (.s (Rl 99 1 (vJ 0 k us (↑(us.length)) 0 xs us f ys).abs (Ex.exit 2) (vJ 0 k us0 m i xs us f ys).abs) (.k ((vJ 0 k us (↑(us.length)) 0 xs us f ys=vJ 0 k us (↑(us.length)) 0 xs us f ys)) rfl (.lf (i64 0)))))))))))))
theorem NV (r:Int) (k:Nat) (us0:List Bool) (m i:Int) (xs:List Int) (us:List Bool) (f:Int) (ys:List Bool) (res:D) (h0:Az res (Jh r k us0 m i xs us f ys) [true]) (h1:Az res (Jh r k us0 m i xs us f ys) [false,true]) (h2:Az res (Jh r k us0 m i xs us f ys) [false,false,true]) (h3:Az res (Jh r k us0 m i xs us f ys) [false,false,false]):Kl 99 [D.agg [ri xs,rb us,i64 f]] res:=fA (hX2) (Jh r k us0 m i xs us f ys) ⟨h0,fun e0=>⟨h1 e0,fun e1=>⟨h2 e0 e1,h3 e0 e1⟩⟩⟩
def ML (r n i:Int) (k:Nat) (xs:List Int) (us:List Bool) (f:Int) (ys:List Bool):Tr D:= .e (ah .lss (↑(xs.length)) 1) (.p (.c 6) (.lf (i64 8))) (.p (.c 0) (.e (ah .gtr (↑(xs.length)) 16) (.p (.c 4) (.lf (i64 8))) (.p (.c 3) (.e (ah .neq ↑(us.length) ↑(xs.length)) (.lf (i64 8)) (.p (.l [[1,2,3,4,5]] [(32,32),(832,832)] (Am 0 (↑(xs.length)) f us.length xs us f us) Ex.ret (Am r n i k xs us f ys)) (.s (us.length≤200) (.s (Rl 99 0 (Am 0 (↑(xs.length)) f us.length xs us f us).abs (Ex.ret) (Am r n i k xs us f ys).abs) (.k ((Am 0 (↑(xs.length)) f us.length xs us f us=Am 0 (↑(xs.length)) f us.length xs us f us)) rfl (.lf (i64 r))))))))))
theorem aa2 (r n i:Int) (k:Nat) (xs:List Int) (us:List Bool) (f:Int) (ys:List Bool) (res:D) (h0:Az res (ML r n i k xs us f ys) [true]) (h1:Az res (ML r n i k xs us f ys) [false,true]) (h2:Az res (ML r n i k xs us f ys) [false,false,true]) (h3:Az res (ML r n i k xs us f ys) [false,false,false]):Kl 99 [D.agg [ri xs,rb us,i64 f]] res:=fA (hX2) (ML r n i k xs us f ys) ⟨h0,fun e0=>⟨h1 e0,fun e1=>⟨h2 e0 e1,h3 e0 e1⟩⟩⟩
def D7 (r:Int) (k:Nat) (us0:List Bool) (m i:Int) (xs:List Int) (us:List Bool) (f:Int) (ys:List Bool):Tr D:= .e (ah .lss (↑(xs.length)) 1) (.p (.c 6) (.lf (i64 8))) (.p (.c 0) (.e (ah .gtr (↑(xs.length)) 16) (.p (.c 4) (.lf (i64 8))) (.p (.c 3) (.e (ah .neq ↑(us.length) ↑(xs.length)) (.lf (i64 8)) (.p (.l [[1,2,3,4,5]] [(32,32),(832,832)] (Am 0 (↑(xs.length)) f us.length xs us f us) (Ex.exit 0) (Am 0 (↑(xs.length)) (-1) k xs us f ys)) (.p (.l [[1,2,4,53,54,55]] [(32,32),(832,832)] (vJ 0 k us (↑(us.length)) 0 xs us f ys) Ex.ret (vJ r k us0 m i xs us f ys)) (.s (us.length≤200) (.s (Rl 99 0 (Am 0 (↑(xs.length)) f us.length xs us f us).abs (Ex.exit 0) (Am 0 (↑(xs.length)) (-1) k xs us f ys).abs) (.k ((Am 0 (↑(xs.length)) f us.length xs us f us=Am 0 (↑(xs.length)) f us.length xs us f us)) rfl (.s (Rl 99 1 (vJ 0 k us (↑(us.length)) 0 xs us f ys).abs (Ex.ret) (vJ r k us0 m i xs us f ys).abs) (.k ((vJ 0 k us (↑(us.length)) 0 xs us f ys=vJ 0 k us (↑(us.length)) 0 xs us f ys)) rfl (.lf (i64 r)))))))))))))
theorem Yf (r:Int) (k:Nat) (us0:List Bool) (m i:Int) (xs:List Int) (us:List Bool) (f:Int) (ys:List Bool) (res:D) (h0:Az res (D7 r k us0 m i xs us f ys) [true]) (h1:Az res (D7 r k us0 m i xs us f ys) [false,true]) (h2:Az res (D7 r k us0 m i xs us f ys) [false,false,true]) (h3:Az res (D7 r k us0 m i xs us f ys) [false,false,false]):Kl 99 [D.agg [ri xs,rb us,i64 f]] res:=fA (hX2) (D7 r k us0 m i xs us f ys) ⟨h0,fun e0=>⟨h1 e0,fun e1=>⟨h2 e0 e1,h3 e0 e1⟩⟩⟩
def unseen:List Bool→Nat
 |[]=>0
 |b::l=>(bif b then 0 else 1)+unseen l
theorem zX:∀ (ys:List Bool) (i:Nat),i<ys.length→ys.getD i false=false→unseen (ys.set i true)+1=unseen ys
 |[],i,h,_=>by simp at h
 |b::l,0,_,hb=>by
  simp at hb;subst hb
  simp[unseen];omega
 |b::l,i+1,h,hb=>by
  have:=zX l i (by simpa using h) (by simpa using hb)
  simp only[List.set_cons_succ,unseen];omega
theorem En:∀ ys:List Bool,unseen ys≤ys.length
 |[]=>Nat.le_refl _
 |b::l=>by have:=En l;cases b<;>simp[unseen]<;>omega
def qm (nx:List Int):Nat→Int→List Bool→Option (List Bool)
 |0,_,_=>none
 |d+1,i,ys=>if i=-1 then some ys else if i<0∨(nx.length:Int)≤i∨ys.getD i.toNat false=true then none else qm nx d (nx.getD i.toNat 0) (ys.set i.toNat true)
theorem Oc {nx:List Int}:∀ {d:Nat} {i:Int} {ys ys':List Bool},qm nx d i ys=some ys'→ys'.length=ys.length
 |0,_,_,_,h=>by cases h
 |d+1,i,ys,ys',h=>by
  simp only[qm] at h
  split at h
  ·simp only[Option.some.injEq] at h;subst h;rfl
  ·split at h
   ·cases h
   ·have:=Oc h;simpa using this
theorem amf (xs:List Int) (us:List Bool) (f:Int):∀ (d:Nat) (i:Int) (ys:List Bool),ys.length=xs.length→unseen ys<d→
  match qm xs d i ys with
  |some ys'=>Rn 99 0 (Am 0 xs.length i xs.length xs us f ys).abs (.exit 0) (Am 0 xs.length (-1) xs.length xs us f ys').abs
  |none=>∃ (i':Int) (ys':List Bool),Rn 99 0 (Am 0 xs.length i xs.length xs us f ys).abs .ret (Am 8 xs.length i' xs.length xs us f ys').abs:=by
 intro d
 induction d with
 |zero=>intro i ys _ h;omega
 |succ d ih=>
  intro i ys hl hd
  simp only[qm]
  by_cases c1:i=-1
  ·subst c1
   simp only[if_true]
   refine G5 0 xs.length (-1) xs.length xs us f ys _ _ ?_ ?_ ?_ ?_ ?_<;>dsimp only[Az,Rg,At,Tr.q,Tr.e,RG,ES]
   ·intro g;rw[aI] at g;exact absurd rfl g
   ·intro g;rw[aI] at g;exact absurd rfl g
   ·intro g;rw[aI] at g;exact absurd rfl g
   ·intro g;rw[aI] at g;exact absurd rfl g
   ·intro _;exact⟨trivial,rfl,rfl⟩
  ·rw[if_neg c1]
   by_cases c2:i<0∨(xs.length:Int)≤i∨ys.getD i.toNat false=true
   ·rw[if_pos c2]
    refine⟨i,ys,G5 0 xs.length i xs.length xs us f ys _ _ ?_ ?_ ?_ ?_ ?_⟩
    ·intro _ _;exact⟨trivial,rfl,rfl⟩
    ·intro _ _ _;exact⟨trivial,rfl,rfl⟩
    ·intro _ g1 g2 _
     rw[aX] at g1;rw[dS] at g2
     exact⟨⟨by omega,by simpa using g1,by simpa using g2,trivial⟩,rfl,rfl⟩
    ·intro _ g1 g2 g3
     rw[aX] at g1;rw[dS] at g2
     rcases c2 with c | c | c
     ·omega
     ·omega
     ·rw[c] at g3;cases g3
    ·intro g;rw[aQ] at g;exact absurd g c1
   ·rw[if_neg c2]
    have hi0:0≤i:=by omega
    have hi1:i<(xs.length:Int):=by omega
    have hi2:ys.getD i.toNat false=false:=by
     cases e:ys.getD i.toNat false with
     |false=>rfl
     |true=>exact absurd (.inr (.inr e)) c2
    have hu:=zX ys i.toNat (by omega) hi2
    have r:=ih (xs.getD i.toNat 0) (ys.set i.toNat true) (by simpa using hl) (by omega)
    have d0:decide (0≤i)=true:=by simpa using hi0
    have d1:decide (i<(xs.length:Int))=true:=by simpa using hi1
    have step:∀ (σ:St) (e:Ex),Rn 99 0 (Am 0 xs.length (xs.getD i.toNat 0) xs.length xs us f (ys.set i.toNat true)).abs e σ→Rn 99 0 (Am 0 xs.length i xs.length xs us f ys).abs e σ:=by
     intro σ e hr
     refine G5 0 xs.length i xs.length xs us f ys σ e ?_ ?_ ?_ ?_ ?_<;>dsimp only[Az,Rg,At,Tr.q,Tr.e,RG,ES]
     ·intro _ g;rw[aP] at g;omega
     ·intro _ _ g;rw[dV] at g;omega
     ·intro _ _ _ g;rw[hi2] at g;cases g
     ·intro _ _ _ _
      exact⟨⟨d0,d1,by omega,rfl,d0,d1,by omega,d0,d1,trivial⟩,hr⟩
     ·intro g;rw[aQ] at g;exact absurd g c1
    cases hw:qm xs d (xs.getD i.toNat 0) (ys.set i.toNat true) with
    |some ys'=>rw[hw] at r;exact step _ _ r
    |none=>
     rw[hw] at r
     obtain⟨i',ys',r⟩:=r
     exact⟨i',ys',step _ _ r⟩
def Kr (nx:List Int) (us ys:List Bool) (i:Nat):Bool:=!ys.getD i false || (us.getD i false && nx.getD i 0 != -1)
def rq (nx:List Int) (us:List Bool) (f:Int):Int:=
 if 1≤nx.length∧nx.length≤16∧us.length=nx.length then match qm nx (nx.length+1) f us with
  |some ys=>if iW (Kr nx us ys) nx.length 0<0 then 0 else 8
  |none=>8
 else 8
theorem aoz (xs:List Int) (us:List Bool) (f:Int) (h:us.length≤200):Kl 99 [.agg [ri xs,rb us,i64 f]] (i64 (rq xs us f)):=by
 unfold rq
 by_cases c:1≤xs.length∧xs.length≤16∧us.length=xs.length
 ·rw[if_pos c]
  obtain⟨c1,c2,c3⟩:=c
  have r:=amf xs us f (xs.length+1) f us c3 (by have:=En us;omega)
  cases hw:qm xs (xs.length+1) f us with
  |none=>
   rw[hw] at r
   obtain⟨i',ys',r⟩:=r
   refine aa2 8 xs.length i' xs.length xs us f ys' _ ?_ ?_ ?_ ?_<;>dsimp only[Az,Rg,At,Tr.q,Tr.e,ML]
   ·intro g;rw[aP] at g;omega
   ·intro _ g;rw[fD] at g;omega
   ·intro _ _ g;rw[aI] at g;omega
   ·intro _ _ _
    have r':=au r
    refine⟨⟨?_,h,trivial⟩,rfl⟩
    rw[c3];exact r'
  |some ys=>
   rw[hw] at r
   have hl:=Oc hw
   have r':=au r
   simp only
   refine gV (b:=dh Pg 99 1) (fun i=>vJ 0 xs.length us us.length (i:Int) xs us f ys) xs.length (Kr xs us ys) (fun v=>Kl 99 [.agg [ri xs,rb us,i64 f]] (i64 (if v<0 then 0 else 8))) ?_ ?_ ?_
   ·intro i hi hp σ e hr
    have n1:=aA hi
    have n2:=aA (n:=us.length) (i:=i) (by omega)
    simp only[Kr,Bool.or_eq_false_iff,Bool.not_eq_false'] at hp
    refine CU 0 xs.length us us.length i xs us f ys σ e ?_ ?_ ?_ ?_ ?_<;>dsimp only[Az,Rg,At,Tr.q,Tr.e,RG,sO]
    ·intro _ g;rw[Int.toNat_natCast,hp.1] at g;cases g
    ·intro _ _ g1 g2
     rw[Int.toNat_natCast] at g1 g2
     rw[aI] at g2
     have:=hp.2
     rw[g1] at this;simp at this;exact absurd this (by simpa using g2)
    ·intro _ _ _ _
     unfold Gf;rw[dW hi (by omega)]
     exact⟨⟨n1.1,n1.2,by rw[Int.toNat_natCast];omega,n1.1,n1.2,n2.1,n2.2,trivial⟩,hr⟩
    ·intro _ _ _
     unfold Gf;rw[dW hi (by omega)]
     exact⟨⟨by rw[Int.toNat_natCast];omega,n1.1,n1.2,n2.1,n2.2,trivial⟩,hr⟩
    ·intro g;rw[aX] at g;omega
   ·intro hr
    refine NV 0 xs.length us us.length us.length xs us f ys _ ?_ ?_ ?_ ?_<;>dsimp only[Az,Rg,At,Tr.q,Tr.e,Jh]
    ·intro g;rw[aP] at g;omega
    ·intro _ g;rw[fD] at g;omega
    ·intro _ _ g;rw[aI] at g;omega
    ·intro _ _ _
     refine⟨⟨au (hr _ _ ?_),?_,h,trivial⟩,rfl⟩
     ·rw[←c3]
      refine CU 0 us.length us us.length us.length xs us f ys _ _ ?_ ?_ ?_ ?_ ?_<;>dsimp only[Az,Rg,At,Tr.q,Tr.e,RG,sO]
      ·intro g;rw[aP] at g;omega
      ·intro g;rw[aP] at g;omega
      ·intro g;rw[aP] at g;omega
      ·intro g;rw[aP] at g;omega
      ·intro _;exact⟨trivial,rfl,rfl⟩
     ·rw[c3];exact r'
   ·intro j hj hp hr
    have n1:=aA hj
    have n2:=aA (n:=us.length) (i:=j) (by omega)
    refine Yf 8 xs.length us us.length j xs us f ys _ ?_ ?_ ?_ ?_<;>dsimp only[Az,Rg,At,Tr.q,Tr.e,D7]
    ·intro g;rw[aP] at g;omega
    ·intro _ g;rw[fD] at g;omega
    ·intro _ _ g;rw[aI] at g;omega
    ·intro _ _ _
     refine⟨⟨au (hr _ _ ?_),?_,h,trivial⟩,by rw[if_neg (by omega)]⟩
     ·refine CU 0 xs.length us us.length j xs us f ys _ _ ?_ ?_ ?_ ?_ ?_<;>dsimp only[Az,Rg,At,Tr.q,Tr.e,RG,sO]
      ·intro _ _;exact⟨⟨by rw[Int.toNat_natCast];omega,n1.1,n1.2,n2.1,n2.2,trivial⟩,rfl,rfl⟩
      ·intro _ _ _ _;exact⟨⟨n1.1,n1.2,by rw[Int.toNat_natCast];omega,n1.1,n1.2,n2.1,n2.2,trivial⟩,rfl,rfl⟩
      ·intro _ g1 g2 g3
       rw[Int.toNat_natCast] at g1 g2 g3
       rw[aQ] at g3
       simp only[Kr,g2,g3,Bool.or_eq_true] at hp
       rcases hp with hp | hp
       ·rw[hp] at g1;cases g1
       ·simp at hp
      ·intro _ g1 g2
       rw[Int.toNat_natCast] at g1 g2
       simp only[Kr,g2,Bool.false_and,Bool.or_false] at hp
       rw[hp] at g1;cases g1
      ·intro g;rw[aX] at g;omega
     ·rw[c3];exact r'
 ·rw[if_neg c]
  refine NV 0 0 [] 0 0 xs us f [] _ ?_ ?_ ?_ ?_<;>dsimp only[Az,Rg,At,Tr.q,Tr.e,Jh]
  ·intro _;exact⟨trivial,rfl⟩
  ·intro _ _;exact⟨trivial,rfl⟩
  ·intro _ _ _;exact⟨trivial,rfl⟩
  ·intro g1 g2 g3
   rw[aX] at g1;rw[iD] at g2;rw[aQ] at g3;omega
def BV (r n la i:Int) (k:Nat) (ps nx:List Int) (h t:Int) (ys:List Bool):Tr (Ex×Cs):= .e (ah .neq i (-1)) (.e (ah .lss i 0) (.p (.c 13) (.lf (Ex.ret,(zD (8) (n) (la) (i) (k) (ps) (nx) (h) (t) (ys))))) (.p (.c 1) (.e (ah .geq i n) (.p (.c 10) (.lf (Ex.ret,(zD (8) (n) (la) (i) (k) (ps) (nx) (h) (t) (ys))))) (.p (.c 2) (.s (decide (i< ↑k)=true) (.s (decide (0≤i)=true) (.s (i.toNat<ys.length) (.e (ys.getD i.toNat false) (.p (.c 6) (.lf (Ex.ret,(zD (8) (n) (la) (i) (k) (ps) (nx) (h) (t) (ys))))) (.p (.c 5) (.s (decide (i<(ps.length:Int))=true) (.s (decide (0≤i)=true) (.e (ah .neq (ps.getD i.toNat 0) la) (.lf (Ex.ret,(zD (8) (n) (la) (i) (k) (ps) (nx) (h) (t) (ys)))) (.s (decide (i< ↑k)=true) (.s (decide (0≤i)=true) (.s (ys.length=ys.length) (.s (i.toNat<ys.length) (.s (decide (i< ↑(nx.length))=true) (.s (decide (0≤i)=true) (.lf (Ex.normal,(zD (r) (n) (i) (nx.getD i.toNat 0) (k) (ps) (nx) (h) (t) (ys.set i.toNat true)))))))))))))))))))))) (.lf (Ex.exit 0,(zD (r) (n) (la) (i) (k) (ps) (nx) (h) (t) (ys))))
theorem Ih (r n la i:Int) (k:Nat) (ps nx:List Int) (h t:Int) (ys:List Bool) (σ:St) (e:Ex) (h0:Rg 121 0 e σ (BV r n la i k ps nx h t ys) [true,true]) (h1:Rg 121 0 e σ (BV r n la i k ps nx h t ys) [true,false,true]) (h2:Rg 121 0 e σ (BV r n la i k ps nx h t ys) [true,false,false,true]) (h3:Rg 121 0 e σ (BV r n la i k ps nx h t ys) [true,false,false,false,true]) (h4:Rg 121 0 e σ (BV r n la i k ps nx h t ys) [true,false,false,false,false]) (h5:Rg 121 0 e σ (BV r n la i k ps nx h t ys) [false]):Rn 121 0 (zD r n la i k ps nx h t ys).abs e σ:=qH (hX2) [[1,2,3,4,5,6]] [(32,32),(832,832)] (BV r n la i k ps nx h t ys) ⟨fun e0=>⟨h0 e0,fun e1=>⟨h1 e0 e1,fun e2=>⟨h2 e0 e1 e2,fun e3=>⟨h3 e0 e1 e2 e3,h4 e0 e1 e2 e3⟩⟩⟩⟩,h5⟩
def Gt (r la:Int) (k:Nat) (m i:Int) (ps nx:List Int) (h t:Int) (ys:List Bool):=vN (r) (la) (k) (m) (ai .add .i64 i 1) (ps) (nx) (h) (t) (ys)
def xh (r la:Int) (k:Nat) (m i:Int) (ps nx:List Int) (h t:Int) (ys:List Bool):Tr (Ex×Cs):= .e (ah .lss i m) (.s (decide (i< ↑k)=true) (.s (decide (0≤i)=true) (.s (i.toNat<ys.length) (.e (!ys.getD i.toNat false) (.p (.c 5) (.s (decide (i<(ps.length:Int))=true) (.s (decide (0≤i)=true) (.e (ah .neq (ps.getD i.toNat 0) (-1)) (.p (.c 6) (.lf (Ex.ret,(vN (8) (la) (k) (m) (i) (ps) (nx) (h) (t) (ys))))) (.p (.c 5) (.s (decide (i< ↑(nx.length))=true) (.s (decide (0≤i)=true) (.e (ah .neq (nx.getD i.toNat 0) (-1)) (.lf (Ex.ret,(vN (8) (la) (k) (m) (i) (ps) (nx) (h) (t) (ys)))) (.lf (Ex.normal,(Gt r la k m i ps nx h t ys))))))))))) (.p (.c 7) (.lf (Ex.normal,(Gt r la k m i ps nx h t ys)))))))) (.lf (Ex.exit 2,(vN (r) (la) (k) (m) (i) (ps) (nx) (h) (t) (ys))))
theorem Ed (r la:Int) (k:Nat) (m i:Int) (ps nx:List Int) (h t:Int) (ys:List Bool) (σ:St) (e:Ex) (h0:Rg 121 1 e σ (xh r la k m i ps nx h t ys) [true,true,true]) (h1:Rg 121 1 e σ (xh r la k m i ps nx h t ys) [true,true,false,true]) (h2:Rg 121 1 e σ (xh r la k m i ps nx h t ys) [true,true,false,false]) (h3:Rg 121 1 e σ (xh r la k m i ps nx h t ys) [true,false]) (h4:Rg 121 1 e σ (xh r la k m i ps nx h t ys) [false]):Rn 121 1 (vN r la k m i ps nx h t ys).abs e σ:=qH (hX2) [[1,2,5,62,63,64]] [(32,32),(832,832)] (xh r la k m i ps nx h t ys) ⟨fun e0=>⟨fun e1=>⟨h0 e0 e1,fun e2=>⟨h1 e0 e1 e2,h2 e0 e1 e2⟩⟩,h3 e0⟩,h4⟩
def ET (r la:Int) (k:Nat) (m i:Int) (ps nx:List Int) (h t:Int) (ys:List Bool):Tr D:= .e (ah .lss ((ps.length:Int)) 1) (.p (.c 6) (.lf (i64 8))) (.p (.c 0) (.e (ah .gtr ((ps.length:Int)) 16) (.p (.c 4) (.lf (i64 8))) (.p (.c 3) (.e (ah .neq ↑(nx.length) (ps.length:Int)) (.lf (i64 8)) (.p (.l [[1,2,3,4,5,6]] [(32,32),(832,832)] (zD 0 ((ps.length:Int)) (-1) h ps.length ps nx h t (List.replicate ps.length false)) (Ex.exit 0) (zD 0 ((ps.length:Int)) la (-1) k ps nx h t ys)) (.p (.l [[1,2,5,62,63,64]] [(32,32),(832,832)] (vN 0 la k (↑k) 0 ps nx h t ys) (Ex.exit 2) (vN 0 la k m i ps nx h t ys)) (.s ((ps.length:Int)≤1099511627776) (.s ((ps.length:Int)*1≤1099511627776) (.q ((ps.length:Int)) (.s (decide (0≤(ps.length:Int))=true) (.s (Rl 121 0 (zD 0 ((ps.length:Int)) (-1) h ps.length ps nx h t (List.replicate ps.length false)).abs (Ex.exit 0) (zD 0 ((ps.length:Int)) la (-1) k ps nx h t ys).abs) (.k ((zD 0 ((ps.length:Int)) (-1) h ps.length ps nx h t (List.replicate ps.length false)=zD 0 ((ps.length:Int)) (-1) h ps.length ps nx h t (List.replicate ps.length false))) rfl (.s (Rl 121 1 (vN 0 la k (↑k) 0 ps nx h t ys).abs (Ex.exit 2) (vN 0 la k m i ps nx h t ys).abs) (.k ((vN 0 la k (↑k) 0 ps nx h t ys=vN 0 la k (↑k) 0 ps nx h t ys)) rfl (.e (ah .neq t la) (.lf (i64 8)) (.lf (i64 0)))))))))))))))))
theorem Na (r la:Int) (k:Nat) (m i:Int) (ps nx:List Int) (h t:Int) (ys:List Bool) (res:D) (h0:Az res (ET r la k m i ps nx h t ys) [true]) (h1:Az res (ET r la k m i ps nx h t ys) [false,true]) (h2:Az res (ET r la k m i ps nx h t ys) [false,false,true]) (h3:Az res (ET r la k m i ps nx h t ys) [false,false,false,true]) (h4:Az res (ET r la k m i ps nx h t ys) [false,false,false,false]):Kl 121 [D.agg [ri ps,ri nx,i64 h,i64 t]] res:=fA (hX2) (ET r la k m i ps nx h t ys) ⟨h0,fun e0=>⟨h1 e0,fun e1=>⟨h2 e0 e1,fun e2=>⟨h3 e0 e1 e2,h4 e0 e1 e2⟩⟩⟩⟩
def Oi (r n la i:Int) (k:Nat) (ps nx:List Int) (h t:Int) (ys:List Bool):Tr D:= .e (ah .lss ((ps.length:Int)) 1) (.p (.c 6) (.lf (i64 8))) (.p (.c 0) (.e (ah .gtr ((ps.length:Int)) 16) (.p (.c 4) (.lf (i64 8))) (.p (.c 3) (.e (ah .neq ↑(nx.length) (ps.length:Int)) (.lf (i64 8)) (.p (.l [[1,2,3,4,5,6]] [(32,32),(832,832)] (zD 0 ((ps.length:Int)) (-1) h ps.length ps nx h t (List.replicate ps.length false)) Ex.ret (zD r n la i k ps nx h t ys)) (.s ((ps.length:Int)≤1099511627776) (.s ((ps.length:Int)*1≤1099511627776) (.q ((ps.length:Int)) (.s (decide (0≤(ps.length:Int))=true) (.s (Rl 121 0 (zD 0 ((ps.length:Int)) (-1) h ps.length ps nx h t (List.replicate ps.length false)).abs (Ex.ret) (zD r n la i k ps nx h t ys).abs) (.k ((zD 0 ((ps.length:Int)) (-1) h ps.length ps nx h t (List.replicate ps.length false)=zD 0 ((ps.length:Int)) (-1) h ps.length ps nx h t (List.replicate ps.length false))) rfl (.lf (i64 r)))))))))))))
theorem ZP (r n la i:Int) (k:Nat) (ps nx:List Int) (h t:Int) (ys:List Bool) (res:D) (h0:Az res (Oi r n la i k ps nx h t ys) [true]) (h1:Az res (Oi r n la i k ps nx h t ys) [false,true]) (h2:Az res (Oi r n la i k ps nx h t ys) [false,false,true]) (h3:Az res (Oi r n la i k ps nx h t ys) [false,false,false]):Kl 121 [D.agg [ri ps,ri nx,i64 h,i64 t]] res:=fA (hX2) (Oi r n la i k ps nx h t ys) ⟨h0,fun e0=>⟨h1 e0,fun e1=>⟨h2 e0 e1,h3 e0 e1⟩⟩⟩
def Em (r la:Int) (k:Nat) (m i:Int) (ps nx:List Int) (h t:Int) (ys:List Bool):Tr D:= .e (ah .lss ((ps.length:Int)) 1) (.p (.c 6) (.lf (i64 8))) (.p (.c 0) (.e (ah .gtr ((ps.length:Int)) 16) (.p (.c 4) (.lf (i64 8))) (.p (.c 3) (.e (ah .neq ↑(nx.length) (ps.length:Int)) (.lf (i64 8)) (.p (.l [[1,2,3,4,5,6]] [(32,32),(832,832)] (zD 0 ((ps.length:Int)) (-1) h ps.length ps nx h t (List.replicate ps.length false)) (Ex.exit 0) (zD 0 ((ps.length:Int)) la (-1) k ps nx h t ys)) (.p (.l [[1,2,5,62,63,64]] [(32,32),(832,832)] (vN 0 la k (↑k) 0 ps nx h t ys) Ex.ret (vN r la k m i ps nx h t ys)) (.s ((ps.length:Int)≤1099511627776) (.s ((ps.length:Int)*1≤1099511627776) (.q ((ps.length:Int)) (.s (decide (0≤(ps.length:Int))=true) (.s (Rl 121 0 (zD 0 ((ps.length:Int)) (-1) h ps.length ps nx h t (List.replicate ps.length false)).abs (Ex.exit 0) (zD 0 ((ps.length:Int)) la (-1) k ps nx h t ys).abs) (.k ((zD 0 ((ps.length:Int)) (-1) h ps.length ps nx h t (List.replicate ps.length false)=zD 0 ((ps.length:Int)) (-1) h ps.length ps nx h t (List.replicate ps.length false))) rfl (.s (Rl 121 1 (vN 0 la k (↑k) 0 ps nx h t ys).abs (Ex.ret) (vN r la k m i ps nx h t ys).abs) (.k ((vN 0 la k (↑k) 0 ps nx h t ys=vN 0 la k (↑k) 0 ps nx h t ys)) rfl (.lf (i64 r))))))))))))))))
theorem VT (r la:Int) (k:Nat) (m i:Int) (ps nx:List Int) (h t:Int) (ys:List Bool) (res:D) (h0:Az res (Em r la k m i ps nx h t ys) [true]) (h1:Az res (Em r la k m i ps nx h t ys) [false,true]) (h2:Az res (Em r la k m i ps nx h t ys) [false,false,true]) (h3:Az res (Em r la k m i ps nx h t ys) [false,false,false]):Kl 121 [D.agg [ri ps,ri nx,i64 h,i64 t]] res:=fA (hX2) (Em r la k m i ps nx h t ys) ⟨h0,fun e0=>⟨h1 e0,fun e1=>⟨h2 e0 e1,h3 e0 e1⟩⟩⟩
def lm (ps nx:List Int):Nat→Int→Int→List Bool→Option (Int×List Bool)
 |0,_,_,_=>none
 |d+1,la,i,ys=>if i=-1 then some (la,ys) else if i<0∨(ps.length:Int)≤i∨ys.getD i.toNat false=true∨ps.getD i.toNat 0≠la then none else lm ps nx d i (nx.getD i.toNat 0) (ys.set i.toNat true)
theorem D8 {ps nx:List Int}:∀ {d:Nat} {la i:Int} {ys:List Bool} {r:Int×List Bool},lm ps nx d la i ys=some r→r.2.length=ys.length
 |0,_,_,_,_,h=>by cases h
 |d+1,la,i,ys,r,h=>by
  simp only[lm] at h
  split at h
  ·simp only[Option.some.injEq] at h;subst h;rfl
  ·split at h
   ·cases h
   ·have:=D8 h;simpa using this
theorem al1 (ps nx:List Int) (h t:Int) (hn:nx.length=ps.length):∀ (d:Nat) (la i:Int) (ys:List Bool),ys.length=ps.length→unseen ys<d→
  match lm ps nx d la i ys with
  |some (la',ys')=>Rn 121 0 (zD 0 ps.length la i ps.length ps nx h t ys).abs (.exit 0) (zD 0 ps.length la' (-1) ps.length ps nx h t ys').abs
  |none=>∃ (la' i':Int) (ys':List Bool),Rn 121 0 (zD 0 ps.length la i ps.length ps nx h t ys).abs .ret (zD 8 ps.length la' i' ps.length ps nx h t ys').abs:=by
 intro d
 induction d with
 |zero=>intro la i ys _ h;omega
 |succ d ih=>
  intro la i ys hl hd
  simp only[lm]
  by_cases c1:i=-1
  ·subst c1
   simp only[if_true]
   refine Ih 0 ps.length la (-1) ps.length ps nx h t ys _ _ ?_ ?_ ?_ ?_ ?_ ?_<;>dsimp only[Az,Rg,At,Tr.q,Tr.e,RG,BV]
   ·intro g;rw[aI] at g;exact absurd rfl g
   ·intro g;rw[aI] at g;exact absurd rfl g
   ·intro g;rw[aI] at g;exact absurd rfl g
   ·intro g;rw[aI] at g;exact absurd rfl g
   ·intro g;rw[aI] at g;exact absurd rfl g
   ·intro _;exact⟨trivial,rfl,rfl⟩
  ·rw[if_neg c1]
   by_cases c2:i<0∨(ps.length:Int)≤i∨ys.getD i.toNat false=true∨ps.getD i.toNat 0≠la
   ·rw[if_pos c2]
    refine⟨la,i,ys,Ih 0 ps.length la i ps.length ps nx h t ys _ _ ?_ ?_ ?_ ?_ ?_ ?_⟩
    ·intro _ _;exact⟨trivial,rfl,rfl⟩
    ·intro _ _ _;exact⟨trivial,rfl,rfl⟩
    ·intro _ g1 g2 _
     rw[aX] at g1;rw[dS] at g2
     exact⟨⟨by omega,by simpa using g1,by simpa using g2,trivial⟩,rfl,rfl⟩
    ·intro _ g1 g2 _ _
     rw[aX] at g1;rw[dS] at g2
     exact⟨⟨by simpa using g1,by simpa using g2,by omega,by simpa using g1,by simpa using g2,trivial⟩,rfl,rfl⟩
    ·intro _ g1 g2 g3 g4
     rw[aX] at g1;rw[dS] at g2;rw[aQ] at g4
     rcases c2 with c | c | c | c
     ·omega
     ·omega
     ·rw[c] at g3;cases g3
     ·exact absurd g4 c
    ·intro g;rw[aQ] at g;exact absurd g c1
   ·rw[if_neg c2]
    have hi0:0≤i:=by omega
    have hi1:i<(ps.length:Int):=by omega
    have hi2:ys.getD i.toNat false=false:=by
     cases e:ys.getD i.toNat false with
     |false=>rfl
     |true=>exact absurd (.inr (.inr (.inl e))) c2
    have hi3:ps.getD i.toNat 0=la:=Classical.byContradiction fun e=>c2 (.inr (.inr (.inr e)))
    have hu:=zX ys i.toNat (by omega) hi2
    have r:=ih i (nx.getD i.toNat 0) (ys.set i.toNat true) (by simpa using hl) (by omega)
    have d0:decide (0≤i)=true:=by simpa using hi0
    have d1:decide (i<(ps.length:Int))=true:=by simpa using hi1
    have d2:decide (i<(nx.length:Int))=true:=by rw[hn];exact d1
    have step:∀ (σ:St) (e:Ex),Rn 121 0 (zD 0 ps.length i (nx.getD i.toNat 0) ps.length ps nx h t (ys.set i.toNat true)).abs e σ→Rn 121 0 (zD 0 ps.length la i ps.length ps nx h t ys).abs e σ:=by
     intro σ e hr
     refine Ih 0 ps.length la i ps.length ps nx h t ys σ e ?_ ?_ ?_ ?_ ?_ ?_<;>dsimp only[Az,Rg,At,Tr.q,Tr.e,RG,BV]
     ·intro _ g;rw[aP] at g;omega
     ·intro _ _ g;rw[dV] at g;omega
     ·intro _ _ _ g;rw[hi2] at g;cases g
     ·intro _ _ _ _ g;rw[aI] at g;exact absurd hi3 g
     ·intro _ _ _ _ _
      exact⟨⟨d0,d2,by omega,rfl,d0,d1,d0,d1,by omega,d0,d1,trivial⟩,hr⟩
     ·intro g;rw[aQ] at g;exact absurd g c1
    cases hw:lm ps nx d i (nx.getD i.toNat 0) (ys.set i.toNat true) with
    |some q=>rw[hw] at r;exact step _ _ r
    |none=>
     rw[hw] at r
     obtain⟨la',i',ys',r⟩:=r
     exact⟨la',i',ys',step _ _ r⟩
def Ey (ps nx:List Int) (ys:List Bool) (i:Nat):Bool:=!ys.getD i false && (ps.getD i 0 != -1 || nx.getD i 0 != -1)
def pG (ps nx:List Int) (h t:Int):Int:=
 if 1≤ps.length∧ps.length≤16∧nx.length=ps.length then match lm ps nx (ps.length+1) (-1) h (List.replicate ps.length false) with
  |some (la,ys)=>if iW (Ey ps nx ys) ps.length 0<0∧t=la then 0 else 8
  |none=>8
 else 8
theorem anZ (ps nx:List Int) (h t:Int):Kl 121 [.agg [ri ps,ri nx,i64 h,i64 t]] (i64 (pG ps nx h t)):=by
 unfold pG
 by_cases c:1≤ps.length∧ps.length≤16∧nx.length=ps.length
 ·rw[if_pos c]
  obtain⟨c1,c2,c3⟩:=c
  have u0:unseen (List.replicate ps.length false)≤ps.length:=by simpa using En (List.replicate ps.length false)
  have r:=al1 ps nx h t c3 (ps.length+1) (-1) h (List.replicate ps.length false) (by simp) (by omega)
  have b0:decide (0≤(ps.length:Int))=true:=by simp
  cases hw:lm ps nx (ps.length+1) (-1) h (List.replicate ps.length false) with
  |none=>
   rw[hw] at r
   obtain⟨la',i',ys',r⟩:=r
   refine ZP 8 ps.length la' i' ps.length ps nx h t ys' _ ?_ ?_ ?_ ?_<;>dsimp only[Az,Rg,At,Tr.q,Tr.e,Oi]
   ·intro g;rw[aP] at g;omega
   ·intro _ g;rw[fD] at g;omega
   ·intro _ _ g;rw[aI] at g;omega
   ·intro _ _ _
    exact⟨⟨au r,b0,by omega,by omega,trivial⟩,rfl⟩
  |some q=>
   obtain⟨la,ys⟩:=q
   rw[hw] at r
   have hl:ys.length=ps.length:=by have:=D8 hw;simpa using this
   have r':=au r
   simp only
   refine gV (b:=dh Pg 121 1) (fun i=>vN 0 la ps.length ps.length (i:Int) ps nx h t ys) ps.length (Ey ps nx ys) (fun v=>Kl 121 [.agg [ri ps,ri nx,i64 h,i64 t]] (i64 (if v<0∧t=la then 0 else 8))) ?_ ?_ ?_
   ·intro i hi hp σ e hr
    have n1:=aA hi
    have n2:=aA (n:=nx.length) (i:=i) (by omega)
    simp only[Ey] at hp
    refine Ed 0 la ps.length ps.length i ps nx h t ys σ e ?_ ?_ ?_ ?_ ?_<;>dsimp only[Az,Rg,At,Tr.q,Tr.e,RG,xh]
    ·intro _ g1 g2
     rw[Int.toNat_natCast] at g1 g2;rw[aI] at g2
     rw[g1,Bool.true_and,Bool.or_eq_false_iff] at hp
     have:=hp.1;simp at this;exact absurd this (by simpa using g2)
    ·intro _ g1 _ g2
     rw[Int.toNat_natCast] at g1 g2;rw[aI] at g2
     rw[g1,Bool.true_and,Bool.or_eq_false_iff] at hp
     have:=hp.2;simp at this;exact absurd this (by simpa using g2)
    ·intro _ _ _ _
     unfold Gt;rw[dW hi (by omega)]
     exact⟨⟨n1.1,n2.2,n1.1,n1.2,by rw[Int.toNat_natCast];omega,n1.1,n1.2,trivial⟩,hr⟩
    ·intro _ _
     unfold Gt;rw[dW hi (by omega)]
     exact⟨⟨by rw[Int.toNat_natCast];omega,n1.1,n1.2,trivial⟩,hr⟩
    ·intro g;rw[aX] at g;omega
   ·intro hr
    have lp:=au (hr _ _ (Ed 0 la ps.length ps.length ps.length ps nx h t ys _ _ (fun g=>by rw[aP] at g;omega) (fun g=>by rw[aP] at g;omega) (fun g=>by rw[aP] at g;omega) (fun g=>by rw[aP] at g;omega) (fun _=>⟨trivial,rfl,rfl⟩)))
    refine Na 0 la ps.length ps.length ps.length ps nx h t ys _ ?_ ?_ ?_ ?_ ?_<;>dsimp only[Az,Rg,At,Tr.q,Tr.e,ET]
    ·intro g;rw[aP] at g;omega
    ·intro _ g;rw[fD] at g;omega
    ·intro _ _ g;rw[aI] at g;omega
    ·intro _ _ _ g;rw[aI] at g
     exact⟨⟨lp,r',b0,by omega,by omega,trivial⟩,by rw[if_neg fun x=>g x.2]⟩
    ·intro _ _ _ g;rw[aQ] at g
     exact⟨⟨lp,r',b0,by omega,by omega,trivial⟩,by rw[if_pos ⟨by omega,g⟩]⟩
   ·intro j hj hp hr
    have n1:=aA hj
    have n2:=aA (n:=nx.length) (i:=j) (by omega)
    simp only[Ey,Bool.and_eq_true,Bool.or_eq_true] at hp
    refine VT 8 la ps.length ps.length j ps nx h t ys _ ?_ ?_ ?_ ?_<;>dsimp only[Az,Rg,At,Tr.q,Tr.e,Em]
    ·intro g;rw[aP] at g;omega
    ·intro _ g;rw[fD] at g;omega
    ·intro _ _ g;rw[aI] at g;omega
    ·intro _ _ _
     refine⟨⟨au (hr _ _ ?_),r',b0,by omega,by omega,trivial⟩,by rw[if_neg (fun x=>by omega)]⟩
     refine Ed 0 la ps.length ps.length j ps nx h t ys _ _ ?_ ?_ ?_ ?_ ?_<;>dsimp only[Az,Rg,At,Tr.q,Tr.e,RG,xh]
     ·intro _ _ _;exact⟨⟨n1.1,n1.2,by rw[Int.toNat_natCast];omega,n1.1,n1.2,trivial⟩,rfl,rfl⟩
     ·intro _ _ _ _;exact⟨⟨n1.1,n2.2,n1.1,n1.2,by rw[Int.toNat_natCast];omega,n1.1,n1.2,trivial⟩,rfl,rfl⟩
     ·intro _ _ g2 g3
      rw[Int.toNat_natCast,aQ] at g2 g3
      rcases hp.2 with q | q
      ·simp at q;exact absurd g2 (by simpa using q)
      ·simp at q;exact absurd g3 (by simpa using q)
     ·intro _ g1
      rw[Int.toNat_natCast] at g1
      rw[hp.1] at g1;cases g1
     ·intro g;rw[aX] at g;omega
 ·rw[if_neg c]
  refine Na 0 0 0 0 0 ps nx h t [] _ ?_ ?_ ?_ ?_ ?_<;>dsimp only[Az,Rg,At,Tr.q,Tr.e,ET]
  ·intro _;exact⟨trivial,rfl⟩
  ·intro _ _;exact⟨trivial,rfl⟩
  ·intro _ _ _;exact⟨trivial,rfl⟩
  ·intro g1 g2 g3
   rw[aX] at g1;rw[iD] at g2;rw[aQ] at g3;omega
  ·intro g1 g2 g3
   rw[aX] at g1;rw[iD] at g2;rw[aQ] at g3;omega
def akC:List D→Option (D×List Prop)
 |[.agg [.rc [.ints .i64 nx], .rc [.bools us], .v (.int .i64 f)]]=>some (i64 (rq nx us f),[us.length≤200])
 |_=>none
theorem aj3 (args res l) (h:akC args=some (res,l)) (hl:aJ l):Kl 99 args res:=by
 unfold akC at h;split at h
 ·obtain⟨rfl,rfl⟩:=dB h;obtain⟨h0,_⟩:=hl
  exact aoz _ _ _ h0
 ·cases h
def lcC:List D→Option (D×List Prop)
 |[.agg [.rc [.ints .i64 ps], .rc [.ints .i64 nx], .v (.int .i64 h), .v (.int .i64 t)]]=>some (i64 (pG ps nx h t),[])
 |_=>none
theorem amV (args res l) (h:lcC args=some (res,l)) (hl:aJ l):Kl 121 args res:=by
 unfold lcC at h;split at h
 ·obtain⟨rfl,rfl⟩:=dB h
  exact anZ _ _ _ _
 ·cases h
def X5:aB:=aF 99 (.call akC) (aF 121 (.call lcC) X4)
theorem hX5:bT Pg X5:=aj aj3 (aj amV VZ)
def llT (k:Nat) (i:Int) (ps nx:List Int) (h t:Int) (l:List Int):Cs:=⟨TT.of [(1,D.ptr 32 0),(2,D.v (Value.slice none 0 0)),(3,i64 0),(5,D.sl 9001 0 k ⟨1,0⟩),(6,i64 i)],26,[],[(32,BX.cells [ri ps,ri nx,i64 h,i64 t] false),(9001,BX.row [.ints .i64 l] false)],none,0⟩
def UU (k:Nat) (i:Int) (ps nx:List Int) (h t:Int) (l:List Int):Tr (Ex×Cs):= .e (ah .neq i (-1)) (.s (l.length=l.length) (.s (k=l.length) (.s ((k+1)*8≤17592186044416) (.s (decide (i<(nx.length:Int))=true) (.s (decide (0≤i)=true) (.lf (Ex.normal,(llT (k+1) (nx.getD i.toNat 0) (ps) (nx) (h) (t) (l ++ [i]))))))))) (.lf (Ex.exit 0,(llT (k) (i) (ps) (nx) (h) (t) (l))))
theorem UW (k:Nat) (i:Int) (ps nx:List Int) (h t:Int) (l:List Int) (σ:St) (e:Ex) (h0:Rg 101 0 e σ (UU k i ps nx h t l) [true]) (h1:Rg 101 0 e σ (UU k i ps nx h t l) [false]):Rn 101 0 (llT k i ps nx h t l).abs e σ:=qH (hX5) [[1,2,3,5,6]] [(32,32),(9001,9001)] (UU k i ps nx h t l) ⟨h0,h1⟩
def Zf (k:Nat) (i:Int) (ps nx:List Int) (h t:Int) (l:List Int):Tr D:= .e (ah .neq (pG ps nx h t) 0) (.lf (D.aS [bZ,i64 (pG ps nx h t)])) (.p (.k [Cast.nil 5 9001 1 [.ints .i64 []]]) (.p (.l [[1,2,3,5,6]] [(32,32),(9001,9001)] (llT 0 h ps nx h t []) (Ex.exit 0) (llT k i ps nx h t l)) (.s (Rl 101 0 (llT 0 h ps nx h t []).abs (Ex.exit 0) (llT k i ps nx h t l).abs) (.k ((llT 0 h ps nx h t []=llT 0 h ps nx h t [])) rfl (.s (k=l.length) (.lf (D.aS [D.oc [.ints .i64 l],i64 0])))))))
theorem L9 (k:Nat) (i:Int) (ps nx:List Int) (h t:Int) (l:List Int) (res:D) (h0:Az res (Zf k i ps nx h t l) [true]) (h1:Az res (Zf k i ps nx h t l) [false]):Kl 101 [D.agg [ri ps,ri nx,i64 h,i64 t]] res:=fA (hX5) (Zf k i ps nx h t l) ⟨h0,h1⟩
def sS (n:Nat) (ys:List Bool) (l:List Int):Prop:=ys.length=n∧∀ j,j<n→ys.getD j false=decide ((j:Int)∈l)
theorem zk (n:Nat):sS n (List.replicate n false) []:=⟨by simp,fun j hj=>by simp[List.getD_eq_getElem?_getD,hj]⟩
theorem zA {n:Nat} {ys:List Bool} {l:List Int} (h:sS n ys l) {i:Int} (h0:0≤i) (h1:i<(n:Int)):sS n (ys.set i.toNat true) (l ++ [i]):=by
 refine⟨by simpa using h.1,fun j hj=>?_⟩
 have hl:=h.1
 by_cases e:i.toNat=j
 ·subst e
  have:i=((i.toNat:Nat):Int):=by omega
  simp only[List.getD_eq_getElem?_getD]
  rw[List.getElem?_set_self (by omega)]
  simp[←this]
 ·have:=h.2 j hj
  simp only[List.getD_eq_getElem?_getD] at this ⊢
  rw[List.getElem?_set_ne e,this]
  have:(j:Int)≠i:=by omega
  simp[this]
theorem Fv {ps nx:List Int} (hn:nx.length=ps.length):∀ (d:Nat) (la i:Int) (ys:List Bool) (l:List Int) (q:Int×List Bool),sS nx.length ys l→lm ps nx d la i ys=some q→
  ∃ l',chain nx d i l=some l'∧sS nx.length q.2 l'
 |0,_,_,_,_,_,_,h=>by cases h
 |d+1,la,i,ys,l,q,hs,h=>by
  simp only[lm] at h
  simp only[chain]
  by_cases c1:i=-1
  ·rw[if_pos c1] at h ⊢
   simp only[Option.some.injEq] at h;subst h
   exact⟨l,rfl,hs⟩
  ·rw[if_neg c1] at h ⊢
   split at h
   ·cases h
   next c2=>
    have h0:0≤i:=by omega
    have h1:i<(nx.length:Int):=by omega
    have hm:i∉l:=fun hm=>by
     apply c2
     right;right;left
     rw[hs.2 i.toNat (by omega),show((i.toNat:Nat):Int)=i by omega]
     simpa using hm
    rw[if_neg (by rintro(c | c | c)<;>first | omega | exact hm c)]
    exact Fv hn d i (nx.getD i.toNat 0) _ _ q (zA hs h0 h1) h
theorem Ac {ps nx:List Int} {h t:Int} (e:pG ps nx h t=0):1≤ps.length∧ps.length≤16∧nx.length=ps.length∧∃ la ys,lm ps nx (ps.length+1) (-1) h (List.replicate ps.length false)=some (la,ys)∧iW (Ey ps nx ys) ps.length 0<0∧t=la:=by
 unfold pG at e
 split at e
 next c=>
  refine⟨c.1,c.2.1,c.2.2,?_⟩
  split at e
  next la ys hw=>
   split at e
   next g=>exact⟨la,ys,hw,g.1,g.2⟩
   ·cases e
  ·cases e
 ·cases e
theorem DU {ps nx:List Int} {h t:Int} (e:pG ps nx h t=0):chain nx (nx.length+1) h []=some (bM nx h):=by
 obtain⟨c1,c2,c3,la,ys,hw,_⟩:=Ac e
 rw[←c3] at hw
 obtain⟨l',h1,_⟩:=Fv c3 _ _ _ _ [] _ (zk _) hw
 unfold bM;rw[h1];rfl
theorem acz (ps nx:List Int) (h t:Int) (hn:nx.length≤200):∀ (d:Nat) (i:Int) (l l':List Int),QU nx.length l→chain nx d i l=some l'→
  Rn 101 0 (llT l.length i ps nx h t l).abs (.exit 0) (llT l'.length (-1) ps nx h t l').abs
 |0,_,_,_,_,hc=>by cases hc
 |d+1,i,l,l',ho,hc=>by
  have hl:=zW _ _ ho.1 ho.2
  simp only[chain] at hc
  by_cases c1:i=-1
  ·rw[if_pos c1] at hc
   simp only[Option.some.injEq] at hc;subst hc;subst c1
   refine UW l.length (-1) ps nx h t l _ _ ?_ ?_<;>dsimp only[Az,Rg,At,Tr.q,Tr.e,RG,UU]
   ·intro g;rw[aI] at g;exact absurd rfl g
   ·intro _;exact⟨trivial,rfl,rfl⟩
  ·rw[if_neg c1] at hc
   split at hc
   ·cases hc
   next c2=>
    have h0:0≤i:=by omega
    have h1:i<(nx.length:Int):=by omega
    have ih:=acz ps nx h t hn d (nx.getD i.toNat 0) (l ++ [i]) l' (Be ho h0 h1 fun hm=>c2 (.inr (.inr hm))) hc
    refine UW l.length i ps nx h t l _ _ ?_ ?_<;>dsimp only[Az,Rg,At,Tr.q,Tr.e,RG,UU]
    ·intro _
     refine⟨⟨by simpa using h0,by simpa using h1,by omega,rfl,rfl,trivial⟩,?_⟩
     simpa using ih
    ·intro g;rw[aQ] at g;exact absurd g c1
def vH (ps nx:List Int) (h t:Int):List Int:=if pG ps nx h t=0 then bM nx h else[]
theorem ao3 (ps nx:List Int) (h t:Int):Kl 101 [.agg [ri ps,ri nx,i64 h,i64 t]] (.aS [oi (vH ps nx h t),i64 (pG ps nx h t)]):=by
 unfold vH
 by_cases e:pG ps nx h t=0
 ·rw[if_pos e,e]
  obtain⟨c1,c2,c3,_⟩:=Ac e
  refine L9 (bM nx h).length (-1) ps nx h t (bM nx h) _ (fun g=>by rw[aI] at g;exact absurd e g) fun _=>?_<;>dsimp only[Az,Rg,At,Tr.q,Tr.e,Zf]
  exact⟨⟨rfl,au (acz ps nx h t (by omega) _ h [] _ (yD _) (DU e)),trivial⟩,rfl⟩
 ·rw[if_neg e]
  refine bf (e:= .aS [.v (.slice none 0 0),i64 (pG ps nx h t)]) (bH.aS (.cons (.nil rfl) (.refl _))) ?_
  exact L9 0 0 ps nx h t [] _ (fun _=>⟨trivial,rfl⟩) fun g=>by rw[aQ] at g;exact absurd g e
def llC:List D→Option (D×List Prop)
 |[.agg [.rc [.ints .i64 ps], .rc [.ints .i64 nx], .v (.int .i64 h), .v (.int .i64 t)]]=>some ((.aS [oi (vH ps nx h t),i64 (pG ps nx h t)]),[])
 |_=>none
theorem ake (args res l) (h:llC args=some (res,l)) (hl:aJ l):Kl 101 args res:=by
 unfold llC at h;split at h
 ·obtain⟨rfl,rfl⟩:=dB h
  exact ao3 _ _ _ _
 ·cases h
def X6:aB:=aF 101 (.call llC) X5
theorem hX6:bT Pg X6:=aj ake hX5
def DY (p1 n1 p2 n2:List Int) (c1 t1 c2 t2:Int):Tr D:= .s (p1.length≤200) (.e (Rq p1 p2) (.p (.c 3) (.s (n1.length≤200) (.e (Rq n1 n2) (.p (.c 3) (.e (ah .eql c1 c2) (.p (.c 3) (.lf (bo (ah .eql t1 t2)))) (.p (.c 3) (.lf (bo false))))) (.p (.c 8) (.lf (bo false)))))) (.p (.c 13) (.lf (bo false))))
theorem Xn (p1 n1 p2 n2:List Int) (c1 t1 c2 t2:Int) (res:D) (h0:Az res (DY p1 n1 p2 n2 c1 t1 c2 t2) [true,true,true]) (h1:Az res (DY p1 n1 p2 n2 c1 t1 c2 t2) [true,true,false]) (h2:Az res (DY p1 n1 p2 n2 c1 t1 c2 t2) [true,false]) (h3:Az res (DY p1 n1 p2 n2 c1 t1 c2 t2) [false]):Kl 98 [D.agg [ri p1,ri n1,i64 c1,i64 t1],D.agg [ri p2,ri n2,i64 c2,i64 t2]] res:=fA (hX6) (DY p1 n1 p2 n2 c1 t1 c2 t2) ⟨fun e0=>⟨fun e1=>⟨h0 e0 e1,h1 e0 e1⟩,h2 e0⟩,h3⟩
def FX (p1 n1:List Int) (h1 t1:Int) (p2 n2:List Int) (h2 t2:Int):Bool:=Rq p1 p2 && (Rq n1 n2 && (decide (h1=h2) && decide (t1=t2)))
theorem agz (p1 n1:List Int) (h1 t1:Int) (p2 n2:List Int) (h2 t2:Int) (hp:p1.length≤200∧n1.length≤200):Kl 98 [.agg [ri p1,ri n1,i64 h1,i64 t1], .agg [ri p2,ri n2,i64 h2,i64 t2]] (bo (FX p1 n1 h1 t1 p2 n2 h2 t2)):=by
 refine Xn p1 n1 p2 n2 h1 t1 h2 t2 _ ?_ ?_ ?_ ?_<;>dsimp only[Az,Rg,At,Tr.q,Tr.e,DY]
 ·intro a b c
  rw[bY] at c
  refine⟨⟨hp.2,hp.1,trivial⟩,?_⟩
  simp only[FX,a,b,c,Bool.true_and,decide_true]
  congr 2
 ·intro a b c
  rw[bV] at c
  exact⟨⟨hp.2,hp.1,trivial⟩,by simp[FX,a,b,c]⟩
 ·intro a b
  exact⟨⟨hp.2,hp.1,trivial⟩,by simp[FX,a,b]⟩
 ·intro a
  exact⟨⟨hp.1,trivial⟩,by simp[FX,a]⟩
def adA:List D→Option (D×List Prop)
 |[.agg [.rc [.ints .i64 p1], .rc [.ints .i64 n1], .v (.int .i64 h1), .v (.int .i64 t1)], .agg [.rc [.ints .i64 p2], .rc [.ints .i64 n2], .v (.int .i64 h2), .v (.int .i64 t2)]]=>some (bo (FX p1 n1 h1 t1 p2 n2 h2 t2),[p1.length≤200∧n1.length≤200])
 |_=>none
theorem aed (args res l) (h:adA args=some (res,l)) (hl:aJ l):Kl 98 args res:=by
 unfold adA at h;split at h
 ·obtain⟨rfl,rfl⟩:=dB h;obtain⟨h0,_⟩:=hl
  exact agz _ _ _ _ _ _ _ _ h0
 ·cases h
def X7:aB:=aF 98 (.call adA) X6
theorem YN:bT Pg X7:=aj aed hX6
def vI (o k:Int) (nx:List Int) (us:List Bool) (f:Int) (m:Nat) (l:List Int):Cs:=⟨TT.of [(1,D.ptr 32 0),(2,i64 o),(3,D.sl 864 0 m ⟨1,0⟩),(5,i64 k)],63,[],[(32,BX.cells [ri nx,rb us,i64 f] false),(864,BX.row [.ints .i64 l] false)],none,0⟩
def lF (kx px:List Int) (ux:List Bool) (o i:Int):Cs:=⟨TT.of [(0,cc kx px ux),(2,i64 o),(3,i64 i)],72,[],[],none,0⟩
def Pj (kx px:List Int) (ux:List Bool) (o n m j:Int):Cs:=⟨TT.of [(0,cc kx px ux),(2,i64 o),(3,i64 n),(13,cc kx px ux),(14,i64 m),(15,i64 j)],70,[],[],none,0⟩
def jT (kx px:List Int) (ux:List Bool) (o i k:Int):Cs:=⟨TT.of [(0,cc kx px ux),(2,i64 o),(3,i64 i),(4,i64 k)],72,[],[],none,0⟩
def mQ (kx px:List Int) (ux:List Bool) (o i:Int):Cs:=⟨TT.of [(0,cc kx px ux),(2,i64 o),(26,i64 i)],70,[],[],none,0⟩
def EU (ps nx:List Int) (h t:Int):Tr D:= .e (ah .lss (ps.length:Int) 1) (.p (.c 10) (.lf (i64 8))) (.p (.c 2) (.e (ah .gtr (ps.length:Int) 16) (.p (.c 6) (.lf (i64 8))) (.p (.c 5) (.e (ah .neq (nx.length:Int) (ps.length:Int)) (.lf (i64 8)) (.s (nx.length≤200) (.e (!KU nx h) (.p (.c 7) (.lf (i64 8))) (.p (.c 6) (.s (mdS (ps.length:Int) (bM nx h)) (.q (af [.ints .i64 (bM nx h)]) (.s (ps.length≤200∧nx.length≤200) (.q (af [.ints .i64 (zh ((ps.length:Int)).toNat (bM nx h) (bM nx h).length)]) (.q (af [.ints .i64 (Ad ((ps.length:Int)).toNat (bM nx h) (bM nx h).length)]) (.e (!FX ps nx h t (Ad ((ps.length:Int)).toNat (bM nx h) (bM nx h).length) (zh ((ps.length:Int)).toNat (bM nx h) (bM nx h).length) (U9 (bM nx h) (bM nx h).length) (IK (bM nx h) (bM nx h).length)) (.lf (i64 8)) (.lf (i64 0)))))))))))))))
theorem aa5 (ps nx:List Int) (h t:Int) (res:D) (h0:Az res (EU ps nx h t) [true]) (h1:Az res (EU ps nx h t) [false,true]) (h2:Az res (EU ps nx h t) [false,false,true]) (h3:Az res (EU ps nx h t) [false,false,false,true]) (h4:Az res (EU ps nx h t) [false,false,false,false,true]) (h5:Az res (EU ps nx h t) [false,false,false,false,false]):Kl 107 [D.agg [ri ps,ri nx,i64 h,i64 t]] res:=fA (YN) (EU ps nx h t) ⟨h0,fun e0=>⟨h1 e0,fun e1=>⟨h2 e0 e1,fun e2=>⟨h3 e0 e1 e2,fun e3=>⟨h4 e0 e1 e2 e3,h5 e0 e1 e2 e3⟩⟩⟩⟩⟩
def Gw (o k:Int) (nx:List Int) (us:List Bool) (f:Int) (m:Nat) (l:List Int):=vI (o) (ai .add .i64 k 1) (nx) (us) (f) (m) (l)
def tZ (o k:Int) (nx:List Int) (us:List Bool) (f:Int) (m:Nat) (l:List Int):Tr (Ex×Cs):= .e (ah .lss k (us.length:Int)) (.s (decide (k<(us.length:Int))=true) (.s (decide (0≤k)=true) (.s (l.length≤200) (.s (m=l.length) (.e (us.getD k.toNat false ==inB l k) (.p (.c 6) (.lf (Ex.ret,(vI (8) (k) (nx) (us) (f) (m) (l))))) (.p (.c 4) (.s (decide (k<(us.length:Int))=true) (.s (decide (0≤k)=true) (.e (us.getD k.toNat false) (.p (.c 5) (.s (decide (k<(nx.length:Int))=true) (.s (decide (0≤k)=true) (.e (ah .neq (nx.getD k.toNat 0) (-1)) (.lf (Ex.ret,(vI (8) (k) (nx) (us) (f) (m) (l)))) (.lf (Ex.normal,(Gw o k nx us f m l))))))) (.p (.c 6) (.lf (Ex.normal,(Gw o k nx us f m l))))))))))))) (.lf (Ex.exit 0,(vI (o) (k) (nx) (us) (f) (m) (l))))
theorem Dt (o k:Int) (nx:List Int) (us:List Bool) (f:Int) (m:Nat) (l:List Int) (σ:St) (e:Ex) (h0:Rg 105 0 e σ (tZ o k nx us f m l) [true,true]) (h1:Rg 105 0 e σ (tZ o k nx us f m l) [true,false,true,true]) (h2:Rg 105 0 e σ (tZ o k nx us f m l) [true,false,true,false]) (h3:Rg 105 0 e σ (tZ o k nx us f m l) [true,false,false]) (h4:Rg 105 0 e σ (tZ o k nx us f m l) [false]):Rn 105 0 (vI o k nx us f m l).abs e σ:=qH (YN) [[1,2,3,5]] [(32,32),(864,864)] (tZ o k nx us f m l) ⟨fun e0=>⟨h0 e0,fun e1=>⟨fun e2=>⟨h1 e0 e1 e2,h2 e0 e1 e2⟩,h3 e0 e1⟩⟩,h4⟩
def vT (nx:List Int) (us:List Bool) (f k:Int):Tr D:= .e (ah .lss (nx.length:Int) 1) (.p (.c 10) (.lf (i64 8))) (.p (.c 2) (.e (ah .gtr (nx.length:Int) 16) (.p (.c 6) (.lf (i64 8))) (.p (.c 5) (.e (ah .neq (us.length:Int) (nx.length:Int)) (.lf (i64 8)) (.s (nx.length≤200) (.e (!KU nx f) (.lf (i64 8)) (.p (.l [[1,2,3,5]] [(32,32),(864,864)] (vI 0 0 nx us f ((bM nx f).length) (bM nx f)) (Ex.exit 0) (vI 0 k nx us f ((bM nx f).length) (bM nx f))) (.s (Rl 105 0 (vI 0 0 nx us f ((bM nx f).length) (bM nx f)).abs (Ex.exit 0) (vI 0 k nx us f ((bM nx f).length) (bM nx f)).abs) (.k ((vI 0 0 nx us f ((bM nx f).length) (bM nx f)=vI 0 0 nx us f ((bM nx f).length) (bM nx f))) rfl (.lf (i64 0)))))))))))
theorem J7 (nx:List Int) (us:List Bool) (f k:Int) (res:D) (h0:Az res (vT nx us f k) [true]) (h1:Az res (vT nx us f k) [false,true]) (h2:Az res (vT nx us f k) [false,false,true]) (h3:Az res (vT nx us f k) [false,false,false,true]) (h4:Az res (vT nx us f k) [false,false,false,false]):Kl 105 [D.agg [ri nx,rb us,i64 f]] res:=fA (YN) (vT nx us f k) ⟨h0,fun e0=>⟨h1 e0,fun e1=>⟨h2 e0 e1,fun e2=>⟨h3 e0 e1 e2,h4 e0 e1 e2⟩⟩⟩⟩
def zC (nx:List Int) (us:List Bool) (f o k:Int):Tr D:= .e (ah .lss (nx.length:Int) 1) (.p (.c 10) (.lf (i64 8))) (.p (.c 2) (.e (ah .gtr (nx.length:Int) 16) (.p (.c 6) (.lf (i64 8))) (.p (.c 5) (.e (ah .neq (us.length:Int) (nx.length:Int)) (.lf (i64 8)) (.s (nx.length≤200) (.e (!KU nx f) (.lf (i64 8)) (.p (.l [[1,2,3,5]] [(32,32),(864,864)] (vI 0 0 nx us f ((bM nx f).length) (bM nx f)) Ex.ret (vI o k nx us f ((bM nx f).length) (bM nx f))) (.s (Rl 105 0 (vI 0 0 nx us f ((bM nx f).length) (bM nx f)).abs (Ex.ret) (vI o k nx us f ((bM nx f).length) (bM nx f)).abs) (.k ((vI 0 0 nx us f ((bM nx f).length) (bM nx f)=vI 0 0 nx us f ((bM nx f).length) (bM nx f))) rfl (.lf (i64 o)))))))))))
theorem XM (nx:List Int) (us:List Bool) (f o k:Int) (res:D) (h0:Az res (zC nx us f o k) [true]) (h1:Az res (zC nx us f o k) [false,true]) (h2:Az res (zC nx us f o k) [false,false,true]) (h3:Az res (zC nx us f o k) [false,false,false,true]) (h4:Az res (zC nx us f o k) [false,false,false,false]):Kl 105 [D.agg [ri nx,rb us,i64 f]] res:=fA (YN) (zC nx us f o k) ⟨h0,fun e0=>⟨h1 e0,fun e1=>⟨h2 e0 e1,fun e2=>⟨h3 e0 e1 e2,h4 e0 e1 e2⟩⟩⟩⟩
theorem DJ {nx:List Int} {f:Int} (h:KU nx f=true):chain nx (nx.length+1) f []=some (bM nx f):=by
 unfold KU at h;unfold bM
 obtain⟨l,e⟩:=Option.isSome_iff_exists.1 h
 rw[e];rfl
theorem xU {nx:List Int} {f:Int} (h:KU nx f=true):QU nx.length (bM nx f):=Bh (yD _) (DJ h)
theorem jE {n:Nat} {l:List Int} (h:QU n l):l.length≤n:=zW _ _ h.1 h.2
def adh (ps nx:List Int) (h t:Int):Bool:=FX ps nx h t (Ad ps.length (bM nx h) (bM nx h).length) (zh ps.length (bM nx h) (bM nx h).length) (U9 (bM nx h) (bM nx h).length) (IK (bM nx h) (bM nx h).length)
def lJ (ps nx:List Int) (h t:Int):Int:=if 1≤ps.length∧ps.length≤16∧nx.length=ps.length∧KU nx h=true∧adh ps nx h t=true then 0 else 8
theorem ak7 (ps nx:List Int) (h t:Int) (hn:nx.length≤200):Kl 107 [.agg [ri ps,ri nx,i64 h,i64 t]] (i64 (lJ ps nx h t)):=by
 unfold lJ
 refine aa5 ps nx h t _ ?_ ?_ ?_ ?_ ?_ ?_<;>dsimp only[Az,Rg,At,Tr.q,Tr.e,EU]
 ·intro g;rw[aP] at g;exact⟨trivial,by rw[if_neg (by omega)]⟩
 ·intro _ g;rw[fD] at g;exact⟨trivial,by rw[if_neg (by omega)]⟩
 ·intro _ _ g;rw[aI] at g;exact⟨trivial,by rw[if_neg (by omega)]⟩
 ·intro _ _ _ g;exact⟨⟨hn,trivial⟩,by rw[if_neg (by intro c;rw[c.2.2.2.1] at g;cases g)]⟩
 all_goals
  intro g1 g2 g3 g4 g5
  rw[aX] at g1;rw[iD] at g2;rw[aQ] at g3
  have g4':KU nx h=true:=by simpa using g4
  have ho:=xU g4'
  have hl:=jE ho
  have hm:mdS (ps.length:Int) (bM nx h):=⟨by omega,by omega,by omega,fun x hx=>by have:=ho.2 x hx;omega⟩
 ·refine⟨⟨⟨by omega,hn⟩,hm,hn,trivial⟩,?_⟩
  rw[if_neg]
  intro c
  have:=c.2.2.2.2
  unfold adh at this
  rw[Int.toNat_natCast] at g5
  rw[this] at g5;cases g5
 ·refine⟨⟨⟨by omega,hn⟩,hm,hn,trivial⟩,?_⟩
  rw[if_pos]
  rw[Int.toNat_natCast] at g5
  exact⟨by omega,by omega,by omega,g4',by unfold adh;simpa using g5⟩
def tV (nx:List Int) (us:List Bool) (f:Int) (i:Nat):Bool:=(us.getD i false ==inB (bM nx f) i) || (us.getD i false && nx.getD i 0 != -1)
def ku (nx:List Int) (us:List Bool) (f:Int):Int:=if 1≤nx.length∧nx.length≤16∧us.length=nx.length∧KU nx f=true then(if iW (tV nx us f) nx.length 0<0 then 0 else 8) else 8
theorem ak5 (nx:List Int) (us:List Bool) (f:Int) (hn:nx.length≤200):Kl 105 [.agg [ri nx,rb us,i64 f]] (i64 (ku nx us f)):=by
 unfold ku
 by_cases c:1≤nx.length∧nx.length≤16∧us.length=nx.length∧KU nx f=true
 ·rw[if_pos c]
  obtain⟨c1,c2,c3,c4⟩:=c
  have hl:=jE (xU c4)
  have hl2:(bM nx f).length≤200:=by omega
  refine gV (b:=dh Pg 105 0) (fun i=>vI 0 (i:Int) nx us f (bM nx f).length (bM nx f)) nx.length (tV nx us f) (fun v=>Kl 105 [.agg [ri nx,rb us,i64 f]] (i64 (if v<0 then 0 else 8))) ?_ ?_ ?_
  ·intro i hi hp σ e hr
   have n1:=aA hi
   have n2:=aA (n:=us.length) (i:=i) (by omega)
   simp only[tV,Bool.or_eq_false_iff] at hp
   refine Dt 0 i nx us f _ (bM nx f) σ e ?_ ?_ ?_ ?_ ?_<;>dsimp only[Az,Rg,At,Tr.q,Tr.e,RG,tZ]
   ·intro _ g;rw[Int.toNat_natCast,hp.1] at g;cases g
   ·intro _ _ g1 g2
    rw[Int.toNat_natCast] at g1 g2
    rw[aI] at g2
    have:=hp.2
    rw[g1] at this;simp at this;exact absurd this (by simpa using g2)
   ·intro _ _ _ _
    unfold Gw;rw[dW hi hn]
    exact⟨⟨n1.1,n1.2,n2.1,n2.2,rfl,hl2,n2.1,n2.2,trivial⟩,hr⟩
   ·intro _ _ _
    unfold Gw;rw[dW hi hn]
    exact⟨⟨n2.1,n2.2,rfl,hl2,n2.1,n2.2,trivial⟩,hr⟩
   ·intro g;rw[aX] at g;omega
  ·intro hr
   refine J7 nx us f nx.length _ ?_ ?_ ?_ ?_ ?_<;>dsimp only[Az,Rg,At,Tr.q,Tr.e,vT]
   ·intro g;rw[aP] at g;omega
   ·intro _ g;rw[fD] at g;omega
   ·intro _ _ g;rw[aI] at g;omega
   ·intro _ _ _ g;rw[c4] at g;cases g
   ·intro _ _ _ _
    refine⟨⟨au (hr _ _ ?_),hn,trivial⟩,rfl⟩
    refine Dt 0 nx.length nx us f _ (bM nx f) _ _ ?_ ?_ ?_ ?_ ?_<;>dsimp only[Az,Rg,At,Tr.q,Tr.e,RG,tZ]
    ·intro g;rw[aP] at g;omega
    ·intro g;rw[aP] at g;omega
    ·intro g;rw[aP] at g;omega
    ·intro g;rw[aP] at g;omega
    ·intro _;exact⟨trivial,rfl,rfl⟩
  ·intro j hj hp hr
   have n1:=aA hj
   have n2:=aA (n:=us.length) (i:=j) (by omega)
   refine XM nx us f 8 j _ ?_ ?_ ?_ ?_ ?_<;>dsimp only[Az,Rg,At,Tr.q,Tr.e,zC]
   ·intro g;rw[aP] at g;omega
   ·intro _ g;rw[fD] at g;omega
   ·intro _ _ g;rw[aI] at g;omega
   ·intro _ _ _ g;rw[c4] at g;cases g
   ·intro _ _ _ _
    refine⟨⟨au (hr _ _ ?_),hn,trivial⟩,by rw[if_neg (by omega)]⟩
    refine Dt 0 j nx us f _ (bM nx f) _ _ ?_ ?_ ?_ ?_ ?_<;>dsimp only[Az,Rg,At,Tr.q,Tr.e,RG,tZ]
    ·intro _ _;exact⟨⟨rfl,hl2,n2.1,n2.2,trivial⟩,rfl,rfl⟩
    ·intro _ _ _ _;exact⟨⟨n1.1,n1.2,n2.1,n2.2,rfl,hl2,n2.1,n2.2,trivial⟩,rfl,rfl⟩
    ·intro _ g1 g2 g3
     rw[Int.toNat_natCast] at g1 g2 g3
     rw[aQ] at g3
     simp only[tV,g1,g3,Bool.false_or,Bool.and_eq_true] at hp
     simp at hp
    ·intro _ g1 g2
     rw[Int.toNat_natCast] at g1 g2
     simp only[tV,g1,Bool.false_or,Bool.and_eq_true] at hp
     rw[g2] at hp;cases hp.1
    ·intro g;rw[aX] at g;omega
 ·rw[if_neg c]
  refine J7 nx us f 0 _ ?_ ?_ ?_ ?_ ?_<;>dsimp only[Az,Rg,At,Tr.q,Tr.e,vT]
  ·intro _;exact⟨trivial,rfl⟩
  ·intro _ _;exact⟨trivial,rfl⟩
  ·intro _ _ _;exact⟨trivial,rfl⟩
  ·intro _ _ _ _;exact⟨⟨hn,trivial⟩,rfl⟩
  ·intro g1 g2 g3 g4
   rw[aX] at g1;rw[iD] at g2;rw[aQ] at g3
   exact absurd ⟨by omega,by omega,by omega,by simpa using g4⟩ c
def alj:List D→Option (D×List Prop)
 |[.agg [.rc [.ints .i64 ps], .rc [.ints .i64 nx], .v (.int .i64 h), .v (.int .i64 t)]]=>some (i64 (lJ ps nx h t),[nx.length≤200])
 |_=>none
theorem agG (args res l) (h:alj args=some (res,l)) (hl:aJ l):Kl 107 args res:=by
 unfold alj at h;split at h
 ·obtain⟨rfl,rfl⟩:=dB h;obtain⟨h0,_⟩:=hl
  exact ak7 _ _ _ _ h0
 ·cases h
def ak2:List D→Option (D×List Prop)
 |[.agg [.rc [.ints .i64 nx], .rc [.bools us], .v (.int .i64 f)]]=>some (i64 (ku nx us f),[nx.length≤200])
 |_=>none
theorem aht (args res l) (h:ak2 args=some (res,l)) (hl:aJ l):Kl 105 args res:=by
 unfold ak2 at h;split at h
 ·obtain⟨rfl,rfl⟩:=dB h;obtain⟨h0,_⟩:=hl
  exact ak5 _ _ _ h0
 ·cases h
def Ej (kx px:List Int) (ux:List Bool) (o i k:Int):Tr (Ex×Cs):= .e (ah .neq k i) (.s (decide (k<(kx.length:Int))=true) (.s (decide (0≤k)=true) (.e (!ux.getD k.toNat false) (.lf (Ex.ret,(jT (kx) (px) (ux) (8) (i) (k)))) (.q (false) (.lf (Ex.normal,(jT (kx) (px) (ux) (o) (i) (ai .rem .i64 (ai .add .i64 k 1) 16)))))))) (.lf (Ex.exit 2,(jT (kx) (px) (ux) (o) (i) (k))))
theorem Dl (kx px:List Int) (ux:List Bool) (o i k:Int) (σ:St) (e:Ex) (h0:Rg 106 1 e σ (Ej kx px ux o i k) [true,true]) (h1:Rg 106 1 e σ (Ej kx px ux o i k) [true,false]) (h2:Rg 106 1 e σ (Ej kx px ux o i k) [false]):Rn 106 1 (jT kx px ux o i k).abs e σ:=qH (YN) [[0,2,3,4]] [] (Ej kx px ux o i k) ⟨fun e0=>⟨h0 e0,h1 e0⟩,h2⟩
def QS (px:List Int) (ux:List Bool) (i:Int):=px.getD i.toNat 0 ==0 && (ux.getD i.toNat false ==false && true)
def nJ (kx px:List Int) (ux:List Bool) (o i:Int):Tr (Ex×Cs):= .e (ah .lss i 16) (.s (decide (i<(kx.length:Int))=true) (.s (decide (0≤i)=true) (.e (!ux.getD i.toNat false) (.s (decide (i<(kx.length:Int))=true) (.s (decide (0≤i)=true) (.e (!(kx.getD i.toNat 0 ==0 && (QS px ux i))) (.lf (Ex.ret,(lF (kx) (px) (ux) (8) (i)))) (.lf (Ex.normal,(lF (kx) (px) (ux) (o) (ai .add .i64 i 1))))))) (.s (decide (i<(kx.length:Int))=true) (.s (decide (0≤i)=true) (.e (ah .lss (px.getD i.toNat 0) 0) (.p (.c 14) (.lf (Ex.ret,(lF (kx) (px) (ux) (8) (i))))) (.p (.c 4) (.s (decide (i<(kx.length:Int))=true) (.s (decide (0≤i)=true) (.e (ah .geq (px.getD i.toNat 0) 16) (.p (.c 8) (.lf (Ex.ret,(lF (kx) (px) (ux) (8) (i))))) (.p (.c 7) (.s (decide (i<(kx.length:Int))=true) (.s (decide (0≤i)=true) (.s (kx.length≤200) (.e (ah .neq (su kx ux (kx.getD i.toNat 0)) i) (.lf (Ex.ret,(lF (kx) (px) (ux) (8) (i)))) (.p (.l [[0,2,3,4]] [] (jT kx px ux o i (cO (kx.getD i.toNat 0))) (Ex.exit 2) (jT kx px ux o i i)) (.s (decide (i<(kx.length:Int))=true) (.s (decide (0≤i)=true) (.s (eX (kx.getD i.toNat 0)) (.s (Rl 106 1 (jT kx px ux o i (cO (kx.getD i.toNat 0))).abs (Ex.exit 2) (jT kx px ux o i i).abs) (.k ((jT kx px ux o i (cO (kx.getD i.toNat 0))=jT kx px ux o i (cO (kx.getD i.toNat 0)))) rfl (.lf (Ex.normal,(lF (kx) (px) (ux) (o) (ai .add .i64 i 1))))))))))))))))))))))))) (.lf (Ex.exit 0,(lF (kx) (px) (ux) (o) (i))))
theorem xP (kx px:List Int) (ux:List Bool) (o i:Int) (σ:St) (e:Ex) (h0:Rg 106 0 e σ (nJ kx px ux o i) [true,true,true]) (h1:Rg 106 0 e σ (nJ kx px ux o i) [true,true,false]) (h2:Rg 106 0 e σ (nJ kx px ux o i) [true,false,true]) (h3:Rg 106 0 e σ (nJ kx px ux o i) [true,false,false,true]) (h4:Rg 106 0 e σ (nJ kx px ux o i) [true,false,false,false,true]) (h5:Rg 106 0 e σ (nJ kx px ux o i) [true,false,false,false,false]) (h6:Rg 106 0 e σ (nJ kx px ux o i) [false]):Rn 106 0 (lF kx px ux o i).abs e σ:=qH (YN) [[0,2,3]] [] (nJ kx px ux o i) ⟨fun e0=>⟨fun e1=>⟨h0 e0 e1,h1 e0 e1⟩,fun e1=>⟨h2 e0 e1,fun e2=>⟨h3 e0 e1 e2,fun e3=>⟨h4 e0 e1 e2 e3,h5 e0 e1 e2 e3⟩⟩⟩⟩,h6⟩
def agI (px:List Int) (ux:List Bool) (i:Int):=px.getD i.toNat 0 ==0 && (ux.getD i.toNat false ==false && true)
def tu (kx px:List Int) (ux:List Bool) (o i k:Int):Tr (Ex×Cs):= .e (ah .lss i 16) (.s (decide (i<(kx.length:Int))=true) (.s (decide (0≤i)=true) (.e (!ux.getD i.toNat false) (.s (decide (i<(kx.length:Int))=true) (.s (decide (0≤i)=true) (.e (!(kx.getD i.toNat 0 ==0 && (agI px ux i))) (.lf (Ex.ret,(lF (kx) (px) (ux) (8) (i)))) (.lf (Ex.normal,(lF (kx) (px) (ux) (o) (ai .add .i64 i 1))))))) (.s (decide (i<(kx.length:Int))=true) (.s (decide (0≤i)=true) (.e (ah .lss (px.getD i.toNat 0) 0) (.p (.c 14) (.lf (Ex.ret,(lF (kx) (px) (ux) (8) (i))))) (.p (.c 4) (.s (decide (i<(kx.length:Int))=true) (.s (decide (0≤i)=true) (.e (ah .geq (px.getD i.toNat 0) 16) (.p (.c 8) (.lf (Ex.ret,(lF (kx) (px) (ux) (8) (i))))) (.p (.c 7) (.s (decide (i<(kx.length:Int))=true) (.s (decide (0≤i)=true) (.s (kx.length≤200) (.e (ah .neq (su kx ux (kx.getD i.toNat 0)) i) (.lf (Ex.ret,(lF (kx) (px) (ux) (8) (i)))) (.p (.l [[0,2,3,4]] [] (jT kx px ux o i (cO (kx.getD i.toNat 0))) Ex.ret (jT kx px ux 8 i k)) (.s (decide (i<(kx.length:Int))=true) (.s (decide (0≤i)=true) (.s (eX (kx.getD i.toNat 0)) (.s (Rl 106 1 (jT kx px ux o i (cO (kx.getD i.toNat 0))).abs (Ex.ret) (jT kx px ux 8 i k).abs) (.k ((jT kx px ux o i (cO (kx.getD i.toNat 0))=jT kx px ux o i (cO (kx.getD i.toNat 0)))) rfl (.lf (Ex.ret,(lF (kx) (px) (ux) (8) (i))))))))))))))))))))))))) (.lf (Ex.exit 0,(lF (kx) (px) (ux) (o) (i))))
theorem aaI (kx px:List Int) (ux:List Bool) (o i k:Int) (σ:St) (e:Ex) (h0:Rg 106 0 e σ (tu kx px ux o i k) [true,true,true]) (h1:Rg 106 0 e σ (tu kx px ux o i k) [true,true,false]) (h2:Rg 106 0 e σ (tu kx px ux o i k) [true,false,true]) (h3:Rg 106 0 e σ (tu kx px ux o i k) [true,false,false,true]) (h4:Rg 106 0 e σ (tu kx px ux o i k) [true,false,false,false,true]) (h5:Rg 106 0 e σ (tu kx px ux o i k) [true,false,false,false,false]) (h6:Rg 106 0 e σ (tu kx px ux o i k) [false]):Rn 106 0 (lF kx px ux o i).abs e σ:=qH (YN) [[0,2,3]] [] (tu kx px ux o i k) ⟨fun e0=>⟨fun e1=>⟨h0 e0 e1,h1 e0 e1⟩,fun e1=>⟨h2 e0 e1,fun e2=>⟨h3 e0 e1 e2,fun e3=>⟨h4 e0 e1 e2 e3,h5 e0 e1 e2 e3⟩⟩⟩⟩,h6⟩
def DC (kx px:List Int) (ux:List Bool) (k:Int):Tr D:= .e (ah .neq (kx.length:Int) 16) (.p (.c 2) (.lf (i64 8))) (.p (.c 1) (.s (kx.length≤200) (.e (ah .gtr (↑(gq kx.length ux)) 12) (.lf (i64 8)) (.p (.l [[0,2,3]] [] (lF kx px ux 0 0) (Ex.exit 0) (lF kx px ux 0 k)) (.s (Rl 106 0 (lF kx px ux 0 0).abs (Ex.exit 0) (lF kx px ux 0 k).abs) (.k ((lF kx px ux 0 0=lF kx px ux 0 0)) rfl (.lf (i64 0))))))))
theorem JY (kx px:List Int) (ux:List Bool) (k:Int) (res:D) (h0:Az res (DC kx px ux k) [true]) (h1:Az res (DC kx px ux k) [false,true]) (h2:Az res (DC kx px ux k) [false,false]):Kl 106 [cc kx px ux] res:=fA (YN) (DC kx px ux k) ⟨h0,fun e0=>⟨h1 e0,h2 e0⟩⟩
def Ir (kx px:List Int) (ux:List Bool) (o k:Int):Tr D:= .e (ah .neq (kx.length:Int) 16) (.p (.c 2) (.lf (i64 8))) (.p (.c 1) (.s (kx.length≤200) (.e (ah .gtr (↑(gq kx.length ux)) 12) (.lf (i64 8)) (.p (.l [[0,2,3]] [] (lF kx px ux 0 0) Ex.ret (lF kx px ux o k)) (.s (Rl 106 0 (lF kx px ux 0 0).abs (Ex.ret) (lF kx px ux o k).abs) (.k ((lF kx px ux 0 0=lF kx px ux 0 0)) rfl (.lf (i64 o))))))))
theorem Wx (kx px:List Int) (ux:List Bool) (o k:Int) (res:D) (h0:Az res (Ir kx px ux o k) [true]) (h1:Az res (Ir kx px ux o k) [false,true]) (h2:Az res (Ir kx px ux o k) [false,false]):Kl 106 [cc kx px ux] res:=fA (YN) (Ir kx px ux o k) ⟨h0,fun e0=>⟨h1 e0,h2 e0⟩⟩
def wJ (ux:List Bool) (i:Nat):Nat→Nat→Bool
 |0,_=>false
 |d+1,k=>if k=i then false else if ux.getD k false=false then true else wJ ux i d ((k+1)%16)
theorem CV (k:Nat) (h:k<16):ai .rem .i64 (ai .add .i64 (k:Int) 1) 16=(((k+1)%16:Nat):Int):=by
 rw[dH,aY (by omega) (by omega),Gj _ (by omega)];omega
theorem Hy (kx px:List Int) (ux:List Bool) (o:Int) (i:Nat) (hx:kx.length=16):∀ (D d k:Nat),k<16→d<D→(k+d)%16=i→
  if wJ ux i D k=true then ∃ k':Int,Rn 106 1 (jT kx px ux o i k).abs .ret (jT kx px ux 8 i k').abs
  else Rn 106 1 (jT kx px ux o i k).abs (.exit 2) (jT kx px ux o i i).abs
 |0,d,k,_,h,_=>by omega
 |D+1,d,k,hk,hd,he=>by
  have b:=aA (n:=kx.length) (i:=k) (by omega)
  by_cases c:k=i
  ·have e:wJ ux i (D+1) k=false:=by simp only[wJ,if_pos c]
   rw[e,if_neg (by simp)]
   subst c
   refine Dl kx px ux o k k _ _ ?_ ?_ ?_<;>dsimp only[Az,Rg,At,Tr.q,Tr.e,RG,Ej]
   ·intro g;rw[aI] at g;omega
   ·intro g;rw[aI] at g;omega
   ·intro _;exact⟨trivial,rfl,rfl⟩
  ·cases hu:ux.getD k false with
   |false=>
    have e:wJ ux i (D+1) k=true:=by simp only[wJ,if_neg c,hu,if_true]
    rw[e,if_pos rfl]
    refine⟨k,Dl kx px ux o i k _ _ ?_ ?_ ?_⟩
    ·intro _ _;exact⟨⟨b.1,b.2,trivial⟩,rfl,rfl⟩
    ·intro _ g;rw[Int.toNat_natCast,hu] at g;cases g
    ·intro g;rw[aQ] at g;omega
   |true=>
    have e:wJ ux i (D+1) k=wJ ux i D ((k+1)%16):=by simp only[wJ,if_neg c,hu];rw[if_neg (by simp)]
    have hd0:d≠0:=fun z=>by subst z;rw[Nat.add_zero,Nat.mod_eq_of_lt hk] at he;exact c he
    have ih:=Hy kx px ux o i hx D (d - 1) ((k+1)%16) (by omega) (by omega) (by rw[←he];omega)
    have st:∀ (σ:St) (ex:Ex),Rn 106 1 (jT kx px ux o i ((k+1)%16:Nat)).abs ex σ→Rn 106 1 (jT kx px ux o i k).abs ex σ:=fun σ ex r=>by
     refine Dl kx px ux o i k _ _ ?_ ?_ ?_<;>dsimp only[Az,Rg,At,Tr.q,Tr.e,RG,Ej]
     ·intro _ g;rw[Int.toNat_natCast,hu] at g;cases g
     ·intro _ _;rw[CV k hk];exact⟨⟨b.1,b.2,trivial⟩,r⟩
     ·intro g;rw[aQ] at g;omega
    rw[e]
    split
    next g=>rw[if_pos g] at ih;obtain⟨k',r⟩:=ih;exact⟨k',st _ _ r⟩
    next g=>rw[if_neg g] at ih;exact st _ _ ih
def qG (kx px:List Int) (ux:List Bool) (i:Nat):Bool:=
 if ux.getD i false=true then decide (px.getD i 0<0∨16≤px.getD i 0∨su kx ux (kx.getD i 0)≠i) || wJ ux i 16 (cO (kx.getD i 0)).toNat
 else decide (kx.getD i 0≠0∨px.getD i 0≠0)
def okI (kx:List Int):Prop:=kx.length≤200∧∀ i,i<kx.length→eX (kx.getD i 0)
def lY (kx px:List Int) (ux:List Bool):Int:=if kx.length=16∧gq 16 ux≤12 then(if iW (qG kx px ux) 16 0<0 then 0 else 8) else 8
theorem zc (a b:Int) (u:Bool) (hu:u=false):(!(a ==0 && (b ==0 && (u ==false && true))))=decide (a≠0∨b≠0):=by
 subst hu
 by_cases h1:a=0<;>by_cases h2:b=0<;>simp[h1,h2]
theorem amy (kx px:List Int) (ux:List Bool) (h:okI kx):Kl 106 [cc kx px ux] (i64 (lY kx px ux)):=by
 unfold lY
 have hl:=h.1
 by_cases c:kx.length=16∧gq 16 ux≤12
 ·rw[if_pos c]
  obtain⟨c1,c2⟩:=c
  refine gV (b:=dh Pg 106 0) (fun i=>lF kx px ux 0 (i:Int)) 16 (qG kx px ux) (fun v=>Kl 106 [cc kx px ux] (i64 (if v<0 then 0 else 8))) ?_ ?_ ?_
  ·intro i hi hp σ e hr
   have n1:=aA (n:=kx.length) (i:=i) (by omega)
   have hu:=h.2 i (by omega)
   have hh:=kC hu
   have hI:=Hy kx px ux 0 i c1 16 ((i+16 - (cO (kx.getD i 0)).toNat)%16) (cO (kx.getD i 0)).toNat (by omega) (by omega) (by omega)
   refine xP kx px ux 0 i σ e ?_ ?_ ?_ ?_ ?_ ?_ ?_<;>dsimp only[Az,Rg,At,Tr.q,Tr.e,RG,nJ]
   ·intro _ g1 g2
    unfold QS at g2
    rw[Int.toNat_natCast] at g1 g2
    have g1':ux.getD i false=false:=by simpa using g1
    rw[zc _ _ _ g1'] at g2
    simp only[qG,g1'] at hp;rw[if_neg (by simp)] at hp
    rw[hp] at g2;cases g2
   ·intro _ _ _;rw[dW hi (by omega)];exact⟨⟨n1.1,n1.2,n1.1,n1.2,trivial⟩,hr⟩
   all_goals (try (intro _ g1))
   all_goals (try (rw[Int.toNat_natCast] at g1;have g1':ux.getD i false=true:=by simpa using g1))
   all_goals (try (simp only[qG,g1',if_true,Bool.or_eq_false_iff,decide_eq_false_iff_not,not_or,ne_eq,Decidable.not_not] at hp))
   ·intro g2;rw[Int.toNat_natCast,aP] at g2;omega
   ·intro _ g2;rw[Int.toNat_natCast,dV] at g2;omega
   ·intro _ _ g2;rw[Int.toNat_natCast,aI] at g2;omega
   ·intro _ _ _
    rw[hp.2,if_neg (by simp)] at hI
    have hI':=au hI
    rw[Int.toNat_of_nonneg hh.1] at hI'
    rw[dW hi (by omega)]
    refine⟨⟨?_,?_,n1.1,n1.2,hl,n1.1,n1.2,n1.1,n1.2,n1.1,n1.2,n1.1,n1.2,trivial⟩,hr⟩
    ·rw[Int.toNat_natCast];exact hI'
    ·rw[Int.toNat_natCast];exact hu
   ·intro g;rw[aX] at g;omega
  ·intro hr
   refine JY kx px ux 16 _ ?_ ?_ ?_<;>dsimp only[Az,Rg,At,Tr.q,Tr.e,DC]
   ·intro g;rw[aI] at g;omega
   ·intro _ g;rw[fD,c1] at g;omega
   ·intro _ _
    refine⟨⟨au (hr _ _ ?_),hl,trivial⟩,rfl⟩
    have c0:¬ ah .lss ((16:Nat):Int) 16=true:=by rw[aP];omega
    refine xP kx px ux 0 (16:Nat) _ _ ?_ ?_ ?_ ?_ ?_ ?_ ?_<;>dsimp only[Az,Rg,At,Tr.q,Tr.e,RG,nJ]
    ·intro g;exact absurd g c0
    ·intro g;exact absurd g c0
    ·intro g;exact absurd g c0
    ·intro g;exact absurd g c0
    ·intro g;exact absurd g c0
    ·intro g;exact absurd g c0
    ·intro _;exact⟨trivial,rfl,rfl⟩
  ·intro j hj hp hr
   have n1:=aA (n:=kx.length) (i:=j) (by omega)
   have hu:=h.2 j (by omega)
   have hh:=kC hu
   have hI:=Hy kx px ux 0 j c1 16 ((j+16 - (cO (kx.getD j 0)).toNat)%16) (cO (kx.getD j 0)).toNat (by omega) (by omega) (by omega)
   refine Wx kx px ux 8 j _ ?_ ?_ ?_<;>dsimp only[Az,Rg,At,Tr.q,Tr.e,Ir]
   ·intro g;rw[aI] at g;omega
   ·intro _ g;rw[fD,c1] at g;omega
   ·intro _ _
    refine⟨⟨au (hr _ _ ?_),hl,trivial⟩,by rw[if_neg (by omega)]⟩
    cases g1':ux.getD j false with
    |false=>
     simp only[qG,g1'] at hp;rw[if_neg (by simp)] at hp
     refine xP kx px ux 0 j _ _ ?_ ?_ ?_ ?_ ?_ ?_ ?_<;>dsimp only[Az,Rg,At,Tr.q,Tr.e,RG,nJ]
     ·intro _ _ _;exact⟨⟨n1.1,n1.2,n1.1,n1.2,trivial⟩,rfl,rfl⟩
     ·intro _ _ g2;unfold QS at g2;rw[Int.toNat_natCast,zc _ _ _ g1',hp] at g2;cases g2
     ·intro _ g;rw[Int.toNat_natCast,g1'] at g;cases g
     ·intro _ g;rw[Int.toNat_natCast,g1'] at g;cases g
     ·intro _ g;rw[Int.toNat_natCast,g1'] at g;cases g
     ·intro _ g;rw[Int.toNat_natCast,g1'] at g;cases g
     ·intro g;rw[aX] at g;omega
    |true=>
     simp only[qG,g1',if_true] at hp
     cases hw:wJ ux j 16 (cO (kx.getD j 0)).toNat with
     |true=>
      rw[hw,if_pos rfl] at hI
      obtain⟨k',hI⟩:=hI
      have hI':=au hI
      rw[Int.toNat_of_nonneg hh.1] at hI'
      refine aaI kx px ux 0 j k' _ _ ?_ ?_ ?_ ?_ ?_ ?_ ?_<;>dsimp only[Az,Rg,At,Tr.q,Tr.e,RG,tu]
      ·intro _ g;rw[Int.toNat_natCast,g1'] at g;cases g
      ·intro _ g;rw[Int.toNat_natCast,g1'] at g;cases g
      ·intro _ _ _;exact⟨⟨n1.1,n1.2,n1.1,n1.2,trivial⟩,rfl,rfl⟩
      ·intro _ _ _ _;exact⟨⟨n1.1,n1.2,n1.1,n1.2,n1.1,n1.2,trivial⟩,rfl,rfl⟩
      ·intro _ _ _ _ _;exact⟨⟨hl,n1.1,n1.2,n1.1,n1.2,n1.1,n1.2,n1.1,n1.2,trivial⟩,rfl,rfl⟩
      ·intro _ _ _ _ _
       refine⟨⟨?_,?_,n1.1,n1.2,hl,n1.1,n1.2,n1.1,n1.2,n1.1,n1.2,n1.1,n1.2,trivial⟩,rfl,rfl⟩
       ·rw[Int.toNat_natCast];exact hI'
       ·rw[Int.toNat_natCast];exact hu
      ·intro g;rw[aX] at g;omega
     |false=>
      rw[hw,Bool.or_false,decide_eq_true_eq] at hp
      refine xP kx px ux 0 j _ _ ?_ ?_ ?_ ?_ ?_ ?_ ?_<;>dsimp only[Az,Rg,At,Tr.q,Tr.e,RG,nJ]
      ·intro _ g;rw[Int.toNat_natCast,g1'] at g;cases g
      ·intro _ g;rw[Int.toNat_natCast,g1'] at g;cases g
      ·intro _ _ _;exact⟨⟨n1.1,n1.2,n1.1,n1.2,trivial⟩,rfl,rfl⟩
      ·intro _ _ _ _;exact⟨⟨n1.1,n1.2,n1.1,n1.2,n1.1,n1.2,trivial⟩,rfl,rfl⟩
      ·intro _ _ _ _ _;exact⟨⟨hl,n1.1,n1.2,n1.1,n1.2,n1.1,n1.2,n1.1,n1.2,trivial⟩,rfl,rfl⟩
      ·intro _ _ g2 g3 g4
       rw[Int.toNat_natCast] at g2 g3 g4
       rw[aX] at g2;rw[dS] at g3;rw[aQ] at g4
       omega
      ·intro g;rw[aX] at g;omega
 ·rw[if_neg c]
  refine JY kx px ux 0 _ ?_ ?_ ?_<;>dsimp only[Az,Rg,At,Tr.q,Tr.e,DC]
  ·intro _;exact⟨trivial,rfl⟩
  ·intro _ _;exact⟨⟨hl,trivial⟩,rfl⟩
  ·intro g1 g2
   rw[aQ] at g1;rw[iD] at g2
   have:kx.length=16:=by omega
   rw[this] at g2
   exact absurd ⟨this,by omega⟩ c
def akw:List D→Option (D×List Prop)
 |[.rc [.ints .u32 kx, .ints .i64 px, .bools ux]]=>some (i64 (lY kx px ux),[okI kx])
 |_=>none
theorem aib (args res l) (h:akw args=some (res,l)) (hl:aJ l):Kl 106 args res:=by
 unfold akw at h;split at h
 ·obtain⟨rfl,rfl⟩:=dB h;obtain⟨h0,_⟩:=hl
  exact amy _ _ _ h0
 ·cases h
def Og (kx px:List Int) (ux:List Bool) (o n m j:Int):Tr (Ex×Cs):= .e (ah .lss j m) (.s (decide (j<(kx.length:Int))=true) (.s (decide (0≤j)=true) (.e (ux.getD j.toNat false) (.lf (Ex.normal,(Pj (kx) (px) (ux) (o) (ai .add .i64 n 1) (m) (ai .add .i64 j 1)))) (.lf (Ex.normal,(Pj (kx) (px) (ux) (o) (n) (m) (ai .add .i64 j 1))))))) (.lf (Ex.exit 0,(Pj (kx) (px) (ux) (o) (n) (m) (j))))
theorem Sm (kx px:List Int) (ux:List Bool) (o n m j:Int) (σ:St) (e:Ex) (h0:Rg 100 0 e σ (Og kx px ux o n m j) [true,true]) (h1:Rg 100 0 e σ (Og kx px ux o n m j) [true,false]) (h2:Rg 100 0 e σ (Og kx px ux o n m j) [false]):Rn 100 0 (Pj kx px ux o n m j).abs e σ:=qH (YN) [[0,2,3,13,14,15]] [] (Og kx px ux o n m j) ⟨fun e0=>⟨h0 e0,h1 e0⟩,h2⟩
def Qc (px:List Int) (ux:List Bool) (i:Int):=px.getD i.toNat 0 ==0 && (ux.getD i.toNat false ==false && true)
def lK (kx px:List Int) (ux:List Bool) (o i:Int):Tr (Ex×Cs):= .e (ah .lss i 16) (.s (decide (i<(kx.length:Int))=true) (.s (decide (0≤i)=true) (.e (!ux.getD i.toNat false) (.p (.c 1) (.e (!(kx.getD i.toNat 0 ==0 && (Qc px ux i))) (.p (.c 3) (.lf (Ex.ret,(mQ (kx) (px) (ux) (8) (i))))) (.p (.c 1) (.d (ux.getD i.toNat false) (fun e3=> .p (.c 2) (.e (ah .lss (px.getD i.toNat 0) 0) (.p (.c 4) (.lf (Ex.ret,(mQ (kx) (px) (ux) (8) (i))))) (.p (.c 3) (.e (ah .geq (px.getD i.toNat 0) 16) (.lf (Ex.ret,(mQ (kx) (px) (ux) (8) (i)))) (.p (.d true) (.p (.c 1) (.s (Vy kx ux (kx.getD i.toNat 0)) (.k _ e3 (.e (ah .neq (↑(dn kx ux (kx.getD i.toNat 0))) i) (.lf (Ex.ret,(mQ (kx) (px) (ux) (8) (i)))) (.lf (Ex.normal,(mQ (kx) (px) (ux) (o) (ai .add .i64 i 1))))))))))))) (fun e3=> .p (.c 5) (.p (.d false) (.p (.c 2) (.s (Vy kx ux (kx.getD i.toNat 0)) (.k _ e3 (.lf (Ex.normal,(mQ (kx) (px) (ux) (o) (ai .add .i64 i 1))))))))))))) (.p (.c 4) (.d (ux.getD i.toNat false) (fun e2=> .p (.c 2) (.e (ah .lss (px.getD i.toNat 0) 0) (.p (.c 4) (.lf (Ex.ret,(mQ (kx) (px) (ux) (8) (i))))) (.p (.c 3) (.e (ah .geq (px.getD i.toNat 0) 16) (.lf (Ex.ret,(mQ (kx) (px) (ux) (8) (i)))) (.p (.d true) (.p (.c 1) (.s (Vy kx ux (kx.getD i.toNat 0)) (.k _ e2 (.e (ah .neq (↑(dn kx ux (kx.getD i.toNat 0))) i) (.lf (Ex.ret,(mQ (kx) (px) (ux) (8) (i)))) (.lf (Ex.normal,(mQ (kx) (px) (ux) (o) (ai .add .i64 i 1))))))))))))) (fun e2=> .p (.c 5) (.p (.d false) (.p (.c 2) (.s (Vy kx ux (kx.getD i.toNat 0)) (.k _ e2 (.lf (Ex.normal,(mQ (kx) (px) (ux) (o) (ai .add .i64 i 1)))))))))))))) (.lf (Ex.exit 2,(mQ (kx) (px) (ux) (o) (i))))
theorem wS (kx px:List Int) (ux:List Bool) (o i:Int) (σ:St) (e:Ex) (h0:Rg 100 1 e σ (lK kx px ux o i) [true,true,true]) (h1:Rg 100 1 e σ (lK kx px ux o i) [true,true,false,true,true]) (h2:Rg 100 1 e σ (lK kx px ux o i) [true,true,false,true,false,true]) (h3:Rg 100 1 e σ (lK kx px ux o i) [true,true,false,true,false,false,true]) (h4:Rg 100 1 e σ (lK kx px ux o i) [true,true,false,true,false,false,false]) (h5:Rg 100 1 e σ (lK kx px ux o i) [true,true,false,false]) (h6:Rg 100 1 e σ (lK kx px ux o i) [true,false,true,true]) (h7:Rg 100 1 e σ (lK kx px ux o i) [true,false,true,false,true]) (h8:Rg 100 1 e σ (lK kx px ux o i) [true,false,true,false,false,true]) (h9:Rg 100 1 e σ (lK kx px ux o i) [true,false,true,false,false,false]) (h10:Rg 100 1 e σ (lK kx px ux o i) [true,false,false]) (h11:Rg 100 1 e σ (lK kx px ux o i) [false]):Rn 100 1 (mQ kx px ux o i).abs e σ:=qH (YN) [[0,2,26]] [] (lK kx px ux o i) ⟨fun e0=>⟨fun e1=>⟨h0 e0 e1,fun e2=>⟨fun e3=>⟨h1 e0 e1 e2 e3,fun e4=>⟨h2 e0 e1 e2 e3 e4,fun e5=>⟨h3 e0 e1 e2 e3 e4 e5,h4 e0 e1 e2 e3 e4 e5⟩⟩⟩,h5 e0 e1 e2⟩⟩,fun e1=>⟨fun e2=>⟨h6 e0 e1 e2,fun e3=>⟨h7 e0 e1 e2 e3,fun e4=>⟨h8 e0 e1 e2 e3 e4,h9 e0 e1 e2 e3 e4⟩⟩⟩,h10 e0 e1⟩⟩,h11⟩
def Mc (kx px:List Int) (ux:List Bool) (n k:Int):Tr D:= .e (ah .neq (kx.length:Int) 16) (.lf (i64 8)) (.p (.l [[0,2,3,13,14,15]] [] (Pj kx px ux 0 0 (kx.length:Int) 0) (Ex.exit 0) (Pj kx px ux 0 n (kx.length:Int) (kx.length:Int))) (.s (Rl 100 0 (Pj kx px ux 0 0 (kx.length:Int) 0).abs (Ex.exit 0) (Pj kx px ux 0 n (kx.length:Int) (kx.length:Int)).abs) (.k ((Pj kx px ux 0 0 (kx.length:Int) 0=Pj kx px ux 0 0 (kx.length:Int) 0)) rfl (.e (ah .gtr n 12) (.lf (i64 8)) (.p (.l [[0,2,26]] [] (mQ kx px ux 0 0) (Ex.exit 2) (mQ kx px ux 0 k)) (.s (Rl 100 1 (mQ kx px ux 0 0).abs (Ex.exit 2) (mQ kx px ux 0 k).abs) (.k ((mQ kx px ux 0 0=mQ kx px ux 0 0)) rfl (.lf (i64 0)))))))))
theorem NY (kx px:List Int) (ux:List Bool) (n k:Int) (res:D) (h0:Az res (Mc kx px ux n k) [true]) (h1:Az res (Mc kx px ux n k) [false,true]) (h2:Az res (Mc kx px ux n k) [false,false]):Kl 100 [cc kx px ux] res:=fA (YN) (Mc kx px ux n k) ⟨h0,fun e0=>⟨h1 e0,h2 e0⟩⟩
def RI (kx px:List Int) (ux:List Bool) (n o k:Int):Tr D:= .e (ah .neq (kx.length:Int) 16) (.lf (i64 8)) (.p (.l [[0,2,3,13,14,15]] [] (Pj kx px ux 0 0 (kx.length:Int) 0) (Ex.exit 0) (Pj kx px ux 0 n (kx.length:Int) (kx.length:Int))) (.s (Rl 100 0 (Pj kx px ux 0 0 (kx.length:Int) 0).abs (Ex.exit 0) (Pj kx px ux 0 n (kx.length:Int) (kx.length:Int)).abs) (.k ((Pj kx px ux 0 0 (kx.length:Int) 0=Pj kx px ux 0 0 (kx.length:Int) 0)) rfl (.e (ah .gtr n 12) (.lf (i64 8)) (.p (.l [[0,2,26]] [] (mQ kx px ux 0 0) Ex.ret (mQ kx px ux o k)) (.s (Rl 100 1 (mQ kx px ux 0 0).abs (Ex.ret) (mQ kx px ux o k).abs) (.k ((mQ kx px ux 0 0=mQ kx px ux 0 0)) rfl (.lf (i64 o)))))))))
theorem aax (kx px:List Int) (ux:List Bool) (n o k:Int) (res:D) (h0:Az res (RI kx px ux n o k) [true]) (h1:Az res (RI kx px ux n o k) [false,true]) (h2:Az res (RI kx px ux n o k) [false,false]):Kl 100 [cc kx px ux] res:=fA (YN) (RI kx px ux n o k) ⟨h0,fun e0=>⟨h1 e0,h2 e0⟩⟩
def uV (kx px:List Int) (ux:List Bool) (i:Nat):Bool:=
 if ux.getD i false=true then decide (px.getD i 0<0∨16≤px.getD i 0∨dn kx ux (kx.getD i 0)≠i)
 else decide (kx.getD i 0≠0∨px.getD i 0≠0)
def uw (kx px:List Int) (ux:List Bool):Int:=if kx.length=16∧gq 16 ux≤12 then(if iW (uV kx px ux) 16 0<0 then 0 else 8) else 8
theorem jK {ux:List Bool}:∀ {n:Nat},gq n ux<n→∃ j,j<n∧ux.getD j false=false
 |0,h=>by omega
 |n+1,h=>by
  cases e:ux.getD n false with
  |false=>exact⟨n,by omega,e⟩
  |true=>
   have:gq n ux<n:=by simp only[gq,cnt,e,cond_true] at h;simp only[gq];omega
   obtain⟨j,a,b⟩:=jK this
   exact⟨j,by omega,b⟩
theorem ahX (kx px:List Int) (ux:List Bool) (h:kx.length≤200):
  Rl 100 0 (Pj kx px ux 0 0 kx.length 0).abs (.exit 0) (Pj kx px ux 0 (gq kx.length ux:Nat) kx.length kx.length).abs:=by
 refine au ?_
 refine fF (fun i=>Pj kx px ux 0 (gq i ux:Nat) kx.length (i:Int)) kx.length (fun _=>True) (fun i hi _ σ e hr=>?_) ?_ kx.length 0 (by omega) (fun _ _ _=>trivial)
 ·refine Sm kx px ux 0 _ kx.length i σ e ?_ ?_ ?_<;>dsimp only[Az,Rg,At,Tr.q,Tr.e,RG,Og]
  ·intro _ g
   rw[Int.toNat_natCast] at g
   rw[dW hi h];unfold gq;rw[cnt1 hi h]
   refine⟨⟨(aA hi).1,(aA hi).2,trivial⟩,?_⟩
   simp only[gq,cnt,g,cond_true] at hr;exact hr
  ·intro _ g
   rw[Int.toNat_natCast] at g
   rw[dW hi h]
   refine⟨⟨(aA hi).1,(aA hi).2,trivial⟩,?_⟩
   simp only[gq,cnt,g,cond_false,Nat.add_zero] at hr;exact hr
  ·intro g;rw[aX] at g;omega
 ·refine Sm kx px ux 0 _ kx.length kx.length _ _ ?_ ?_ ?_<;>dsimp only[Az,Rg,At,Tr.q,Tr.e,RG,Og]
  ·intro g;rw[aP] at g;omega
  ·intro g;rw[aP] at g;omega
  ·intro _;exact⟨trivial,rfl,rfl⟩
theorem anB (kx px:List Int) (ux:List Bool) (h:okI kx):Kl 100 [cc kx px ux] (i64 (uw kx px ux)):=by
 unfold uw
 have hl:=h.1
 have hL:=ahX kx px ux hl
 by_cases c:kx.length=16∧gq 16 ux≤12
 ·rw[if_pos c]
  obtain⟨c1,c2⟩:=c
  have hfree:=jK (ux:=ux) (n:=16) (by omega)
  have hlk:∀ i,i<16→Vy kx ux (kx.getD i 0):=fun i hi=>⟨c1,h.2 i (by omega),hfree⟩
  refine gV (b:=dh Pg 100 1) (fun i=>mQ kx px ux 0 (i:Int)) 16 (uV kx px ux) (fun v=>Kl 100 [cc kx px ux] (i64 (if v<0 then 0 else 8))) ?_ ?_ ?_
  ·intro i hi hp σ e hr
   have n1:=aA (n:=kx.length) (i:=i) (by omega)
   have hk:=hlk i hi
   have hs:=dW hi (by omega)
   have hkx:Vy kx ux (kx.getD (i:Int).toNat 0):=by rw[Int.toNat_natCast];exact hk
   cases g1':ux.getD i false with
   |false=>
    simp only[uV,g1'] at hp;rw[if_neg (by simp)] at hp
    have ga:¬ ux.getD (i:Int).toNat false=true:=by rw[Int.toNat_natCast,g1'];simp
    have gb:¬ (!ux.getD (i:Int).toNat false)=false:=by rw[Int.toNat_natCast,g1'];simp
    refine wS kx px ux 0 i σ e ?_ ?_ ?_ ?_ ?_ ?_ ?_ ?_ ?_ ?_ ?_ ?_<;>dsimp only[Az,Rg,At,Tr.q,Tr.e,RG,lK]
    ·intro _ _ g2
     try unfold Qc at g2
     rw[Int.toNat_natCast,zc _ _ _ g1',hp] at g2;cases g2
    ·intro _ _ _ g;exact absurd g ga
    ·intro _ _ _ g;exact absurd g ga
    ·intro _ _ _ g;exact absurd g ga
    ·intro _ _ _ g;exact absurd g ga
    ·intro _ _ _ _
     (try unfold pcM_c1);(try unfold Qc)
     rw[hs];exact⟨⟨hkx,n1.1,n1.2,trivial⟩,hr⟩
    ·intro _ g;exact absurd g gb
    ·intro _ g;exact absurd g gb
    ·intro _ g;exact absurd g gb
    ·intro _ g;exact absurd g gb
    ·intro _ g;exact absurd g gb
    ·intro g;rw[aX] at g;omega
   |true=>
    simp only[uV,g1',if_true,decide_eq_false_iff_not,not_or,ne_eq,Decidable.not_not] at hp
    have ga:¬ ux.getD (i:Int).toNat false=false:=by rw[Int.toNat_natCast,g1'];simp
    have gb:¬ (!ux.getD (i:Int).toNat false)=true:=by rw[Int.toNat_natCast,g1'];simp
    refine wS kx px ux 0 i σ e ?_ ?_ ?_ ?_ ?_ ?_ ?_ ?_ ?_ ?_ ?_ ?_<;>dsimp only[Az,Rg,At,Tr.q,Tr.e,RG,lK]
    ·intro _ g;exact absurd g gb
    ·intro _ g;exact absurd g gb
    ·intro _ g;exact absurd g gb
    ·intro _ g;exact absurd g gb
    ·intro _ g;exact absurd g gb
    ·intro _ g;exact absurd g gb
    ·intro _ _ _ g;rw[Int.toNat_natCast,aP] at g;omega
    ·intro _ _ _ _ g;rw[Int.toNat_natCast,dV] at g;omega
    ·intro _ _ _ _ _ g;rw[Int.toNat_natCast,aI] at g;omega
    ·intro _ _ _ _ _ _
     (try unfold pcM_c1);(try unfold Qc)
     rw[hs];exact⟨⟨hkx,n1.1,n1.2,trivial⟩,hr⟩
    ·intro _ _ g;exact absurd g ga
    ·intro g;rw[aX] at g;omega
  ·intro hr
   refine NY kx px ux (gq kx.length ux:Nat) 16 _ ?_ ?_ ?_<;>dsimp only[Az,Rg,At,Tr.q,Tr.e,Mc]
   ·intro g;rw[aI] at g;omega
   ·intro _ g;rw[fD,c1] at g;omega
   ·intro _ _
    refine⟨⟨au (hr _ _ ?_),hL,trivial⟩,rfl⟩
    have c0:¬ ah .lss ((16:Nat):Int) 16=true:=by rw[aP];omega
    refine wS kx px ux 0 (16:Nat) _ _ ?_ ?_ ?_ ?_ ?_ ?_ ?_ ?_ ?_ ?_ ?_ ?_<;>dsimp only[Az,Rg,At,Tr.q,Tr.e,RG,lK]
    all_goals first | (intro g;exact absurd g c0) | (intro _;exact⟨trivial,rfl,rfl⟩)
  ·intro j hj hp hr
   have n1:=aA (n:=kx.length) (i:=j) (by omega)
   have hk:=hlk j hj
   have hkx:Vy kx ux (kx.getD (j:Int).toNat 0):=by rw[Int.toNat_natCast];exact hk
   refine aax kx px ux (gq kx.length ux:Nat) 8 j _ ?_ ?_ ?_<;>dsimp only[Az,Rg,At,Tr.q,Tr.e,RI]
   ·intro g;rw[aI] at g;omega
   ·intro _ g;rw[fD,c1] at g;omega
   ·intro _ _
    refine⟨⟨au (hr _ _ ?_),hL,trivial⟩,by rw[if_neg (by omega)]⟩
    cases g1':ux.getD j false with
    |false=>
     simp only[uV,g1'] at hp;rw[if_neg (by simp)] at hp
     have ga:¬ ux.getD (j:Int).toNat false=true:=by rw[Int.toNat_natCast,g1'];simp
     have gb:¬ (!ux.getD (j:Int).toNat false)=false:=by rw[Int.toNat_natCast,g1'];simp
     have gc:∀ g2,(!(kx.getD (j:Int).toNat 0 ==0 && (px.getD (j:Int).toNat 0 ==0 && (ux.getD (j:Int).toNat false ==false && true))))=g2→g2=true:=fun g2 e=>by
      rw[Int.toNat_natCast,zc _ _ _ g1',hp] at e;exact e.symm
     refine wS kx px ux 0 j _ _ ?_ ?_ ?_ ?_ ?_ ?_ ?_ ?_ ?_ ?_ ?_ ?_<;>dsimp only[Az,Rg,At,Tr.q,Tr.e,RG,lK]
     ·intro _ _ _;exact⟨⟨n1.1,n1.2,trivial⟩,rfl,rfl⟩
     ·intro _ _ _ g;exact absurd g ga
     ·intro _ _ _ g;exact absurd g ga
     ·intro _ _ _ g;exact absurd g ga
     ·intro _ _ _ g;exact absurd g ga
     ·intro _ _ g2;exact absurd (gc _ g2) (by simp)
     ·intro _ g;exact absurd g gb
     ·intro _ g;exact absurd g gb
     ·intro _ g;exact absurd g gb
     ·intro _ g;exact absurd g gb
     ·intro _ g;exact absurd g gb
     ·intro g;rw[aX] at g;omega
    |true=>
     simp only[uV,g1',if_true,decide_eq_true_eq] at hp
     have ga:¬ ux.getD (j:Int).toNat false=false:=by rw[Int.toNat_natCast,g1'];simp
     have gb:¬ (!ux.getD (j:Int).toNat false)=true:=by rw[Int.toNat_natCast,g1'];simp
     refine wS kx px ux 0 j _ _ ?_ ?_ ?_ ?_ ?_ ?_ ?_ ?_ ?_ ?_ ?_ ?_<;>dsimp only[Az,Rg,At,Tr.q,Tr.e,RG,lK]
     ·intro _ g;exact absurd g gb
     ·intro _ g;exact absurd g gb
     ·intro _ g;exact absurd g gb
     ·intro _ g;exact absurd g gb
     ·intro _ g;exact absurd g gb
     ·intro _ g;exact absurd g gb
     ·intro _ _ _ _;exact⟨⟨n1.1,n1.2,trivial⟩,rfl,rfl⟩
     ·intro _ _ _ _ _;exact⟨⟨n1.1,n1.2,trivial⟩,rfl,rfl⟩
     ·intro _ _ _ _ _ _;exact⟨⟨hkx,n1.1,n1.2,trivial⟩,rfl,rfl⟩
     ·intro _ _ _ g1 g2 g3
      rw[Int.toNat_natCast] at g1 g2 g3
      rw[aX] at g1;rw[dS] at g2;rw[aQ] at g3
      omega
     ·intro _ _ g;exact absurd g ga
     ·intro g;rw[aX] at g;omega
 ·rw[if_neg c]
  refine NY kx px ux (gq kx.length ux:Nat) 0 _ ?_ ?_ ?_<;>dsimp only[Az,Rg,At,Tr.q,Tr.e,Mc]
  ·intro _;exact⟨trivial,rfl⟩
  ·intro _ _;exact⟨⟨hL,trivial⟩,rfl⟩
  ·intro g1 g2
   rw[aQ] at g1;rw[iD] at g2
   have:kx.length=16:=by omega
   rw[this] at g2
   exact absurd ⟨this,by omega⟩ c
def pcC:List D→Option (D×List Prop)
 |[.rc [.ints .u32 kx, .ints .i64 px, .bools ux]]=>some (i64 (uw kx px ux),[okI kx])
 |_=>none
theorem amz (args res l) (h:pcC args=some (res,l)) (hl:aJ l):Kl 100 args res:=by
 unfold pcC at h;split at h
 ·obtain⟨rfl,rfl⟩:=dB h;obtain⟨h0,_⟩:=hl
  exact anB _ _ _ h0
 ·cases h
def X8:aB:=aF 100 (.call pcC) (aF 106 (.call akw) (aF 105 (.call ak2) (aF 107 (.call alj) X7)))
theorem hX8:bT Pg X8:=aj amz (aj aib (aj aht (aj agG YN)))
def A8 (b r p:Int):Tr D:= .e (ah .lss b 1) (.p (.c 14) (.lf (i64 8))) (.p (.c 1) (.e (ah .gtr b 1000000000) (.p (.c 11) (.lf (i64 8))) (.p (.c 1) (.e (ah .lss r 0) (.p (.c 8) (.lf (i64 8))) (.p (.c 1) (.e (ah .gtr r 1000000000) (.p (.c 5) (.lf (i64 8))) (.p (.c 1) (.e (ah .lss p 1) (.p (.c 2) (.lf (i64 8))) (.p (.c 1) (.e (ah .gtr p 1000000000) (.lf (i64 8)) (.lf (i64 0))))))))))))
theorem abM (b r p:Int) (res:D) (h0:Az res (A8 b r p) [true]) (h1:Az res (A8 b r p) [false,true]) (h2:Az res (A8 b r p) [false,false,true]) (h3:Az res (A8 b r p) [false,false,false,true]) (h4:Az res (A8 b r p) [false,false,false,false,true]) (h5:Az res (A8 b r p) [false,false,false,false,false,true]) (h6:Az res (A8 b r p) [false,false,false,false,false,false]):Kl 69 [D.agg [i64 b,i64 r,i64 p]] res:=fA (hX8) (A8 b r p) ⟨h0,fun e0=>⟨h1 e0,fun e1=>⟨h2 e0 e1,fun e2=>⟨h3 e0 e1 e2,fun e3=>⟨h4 e0 e1 e2 e3,fun e4=>⟨h5 e0 e1 e2 e3 e4,h6 e0 e1 e2 e3 e4⟩⟩⟩⟩⟩⟩
def Bc (b r p:Int):Tr D:= .e (ah .lss b 1) (.p (.c 14) (.lf (i64 8))) (.p (.c 1) (.e (ah .gtr b 1000000000) (.p (.c 11) (.lf (i64 8))) (.p (.c 1) (.e (ah .lss r 0) (.p (.c 8) (.lf (i64 8))) (.p (.c 1) (.e (ah .gtr r 1000000000) (.p (.c 5) (.lf (i64 8))) (.p (.c 1) (.e (ah .lss p 1) (.p (.c 2) (.lf (i64 8))) (.p (.c 1) (.e (ah .gtr p 1000000000) (.lf (i64 8)) (.lf (i64 0))))))))))))
theorem abl (b r p:Int) (res:D) (h0:Az res (Bc b r p) [true]) (h1:Az res (Bc b r p) [false,true]) (h2:Az res (Bc b r p) [false,false,true]) (h3:Az res (Bc b r p) [false,false,false,true]) (h4:Az res (Bc b r p) [false,false,false,false,true]) (h5:Az res (Bc b r p) [false,false,false,false,false,true]) (h6:Az res (Bc b r p) [false,false,false,false,false,false]):Kl 67 [D.agg [i64 b,i64 r,i64 p]] res:=fA (hX8) (Bc b r p) ⟨h0,fun e0=>⟨h1 e0,fun e1=>⟨h2 e0 e1,fun e2=>⟨h3 e0 e1 e2,fun e3=>⟨h4 e0 e1 e2 e3,fun e4=>⟨h5 e0 e1 e2 e3 e4,h6 e0 e1 e2 e3 e4⟩⟩⟩⟩⟩⟩
def pI (b r p v q t:Int):Tr D:= .e (ah .lss b 1) (.p (.c 15) (.lf (i64 8))) (.p (.c 1) (.e (ah .gtr b 1000000000) (.p (.c 12) (.lf (i64 8))) (.p (.c 1) (.e (ah .lss r 0) (.p (.c 9) (.lf (i64 8))) (.p (.c 1) (.e (ah .gtr r 1000000000) (.p (.c 6) (.lf (i64 8))) (.p (.c 1) (.e (ah .lss p 1) (.p (.c 3) (.lf (i64 8))) (.p (.c 1) (.e (ah .gtr p 1000000000) (.p (.c 0) (.lf (i64 8))) (.p (.c 0) (.e (ah .lss v 0) (.p (.c 14) (.lf (i64 8))) (.p (.c 0) (.e (ah .lss (ai .sub .i64 b v) 0) (.p (.c 12) (.lf (i64 8))) (.p (.c 1) (.e (ah .lss q 0) (.p (.c 9) (.lf (i64 8))) (.p (.c 4) (.e (ah .geq q p) (.p (.c 3) (.lf (i64 8))) (.p (.c 1) (.e (ah .eql (ai .sub .i64 b v) 0) (.p (.c 2) (.e (ah .gtr q 0) (.lf (i64 8)) (.lf (i64 0)))) (.p (.c 3) (.lf (i64 0)))))))))))))))))))))))
theorem aak (b r p v q t:Int) (res:D) (h0:Az res (pI b r p v q t) [true]) (h1:Az res (pI b r p v q t) [false,true]) (h2:Az res (pI b r p v q t) [false,false,true]) (h3:Az res (pI b r p v q t) [false,false,false,true]) (h4:Az res (pI b r p v q t) [false,false,false,false,true]) (h5:Az res (pI b r p v q t) [false,false,false,false,false,true]) (h6:Az res (pI b r p v q t) [false,false,false,false,false,false,true]) (h7:Az res (pI b r p v q t) [false,false,false,false,false,false,false,true]) (h8:Az res (pI b r p v q t) [false,false,false,false,false,false,false,false,true]) (h9:Az res (pI b r p v q t) [false,false,false,false,false,false,false,false,false,true]) (h10:Az res (pI b r p v q t) [false,false,false,false,false,false,false,false,false,false,true,true]) (h11:Az res (pI b r p v q t) [false,false,false,false,false,false,false,false,false,false,true,false]) (h12:Az res (pI b r p v q t) [false,false,false,false,false,false,false,false,false,false,false]):Kl 52 [D.agg [i64 b,i64 r,i64 p,i64 v,i64 q,u64 t]] res:=fA (hX8) (pI b r p v q t) ⟨h0,fun e0=>⟨h1 e0,fun e1=>⟨h2 e0 e1,fun e2=>⟨h3 e0 e1 e2,fun e3=>⟨h4 e0 e1 e2 e3,fun e4=>⟨h5 e0 e1 e2 e3 e4,fun e5=>⟨h6 e0 e1 e2 e3 e4 e5,fun e6=>⟨h7 e0 e1 e2 e3 e4 e5 e6,fun e7=>⟨h8 e0 e1 e2 e3 e4 e5 e6 e7,fun e8=>⟨h9 e0 e1 e2 e3 e4 e5 e6 e7 e8,fun e9=>⟨fun e10=>⟨h10 e0 e1 e2 e3 e4 e5 e6 e7 e8 e9 e10,h11 e0 e1 e2 e3 e4 e5 e6 e7 e8 e9 e10⟩,h12 e0 e1 e2 e3 e4 e5 e6 e7 e8 e9⟩⟩⟩⟩⟩⟩⟩⟩⟩⟩⟩
def pF (b r p v q t:Int):Tr D:= .e (ah .lss b 1) (.p (.c 41) (.lf (i64 8))) (.p (.c 1) (.e (ah .gtr b 1000000000) (.p (.c 38) (.lf (i64 8))) (.p (.c 1) (.e (ah .lss r 0) (.p (.c 35) (.lf (i64 8))) (.p (.c 1) (.e (ah .gtr r 1000000000) (.p (.c 32) (.lf (i64 8))) (.p (.c 1) (.e (ah .lss p 1) (.p (.c 29) (.lf (i64 8))) (.p (.c 1) (.e (ah .gtr p 1000000000) (.p (.c 26) (.lf (i64 8))) (.p (.c 2) (.e (ah .lss v 0) (.p (.c 22) (.lf (i64 8))) (.p (.c 4) (.e (ah .gtr v b) (.p (.c 16) (.lf (i64 8))) (.p (.c 1) (.e (ah .lss q 0) (.p (.c 13) (.lf (i64 8))) (.p (.c 4) (.e (ah .geq q p) (.p (.c 7) (.lf (i64 8))) (.p (.c 5) (.e (ah .eql v b) (.p (.c 2) (.e (ah .neq q 0) (.lf (i64 8)) (.lf (i64 0)))) (.p (.c 3) (.lf (i64 0)))))))))))))))))))))))
theorem aaz (b r p v q t:Int) (res:D) (h0:Az res (pF b r p v q t) [true]) (h1:Az res (pF b r p v q t) [false,true]) (h2:Az res (pF b r p v q t) [false,false,true]) (h3:Az res (pF b r p v q t) [false,false,false,true]) (h4:Az res (pF b r p v q t) [false,false,false,false,true]) (h5:Az res (pF b r p v q t) [false,false,false,false,false,true]) (h6:Az res (pF b r p v q t) [false,false,false,false,false,false,true]) (h7:Az res (pF b r p v q t) [false,false,false,false,false,false,false,true]) (h8:Az res (pF b r p v q t) [false,false,false,false,false,false,false,false,true]) (h9:Az res (pF b r p v q t) [false,false,false,false,false,false,false,false,false,true]) (h10:Az res (pF b r p v q t) [false,false,false,false,false,false,false,false,false,false,true,true]) (h11:Az res (pF b r p v q t) [false,false,false,false,false,false,false,false,false,false,true,false]) (h12:Az res (pF b r p v q t) [false,false,false,false,false,false,false,false,false,false,false]):Kl 33 [D.agg [i64 b,i64 r,i64 p,i64 v,i64 q,u64 t]] res:=fA (hX8) (pF b r p v q t) ⟨h0,fun e0=>⟨h1 e0,fun e1=>⟨h2 e0 e1,fun e2=>⟨h3 e0 e1 e2,fun e3=>⟨h4 e0 e1 e2 e3,fun e4=>⟨h5 e0 e1 e2 e3 e4,fun e5=>⟨h6 e0 e1 e2 e3 e4 e5,fun e6=>⟨h7 e0 e1 e2 e3 e4 e5 e6,fun e7=>⟨h8 e0 e1 e2 e3 e4 e5 e6 e7,fun e8=>⟨h9 e0 e1 e2 e3 e4 e5 e6 e7 e8,fun e9=>⟨fun e10=>⟨h10 e0 e1 e2 e3 e4 e5 e6 e7 e8 e9 e10,h11 e0 e1 e2 e3 e4 e5 e6 e7 e8 e9 e10⟩,h12 e0 e1 e2 e3 e4 e5 e6 e7 e8 e9⟩⟩⟩⟩⟩⟩⟩⟩⟩⟩⟩
def acI (kx px:List Int) (ux:List Bool) (k:Int):Tr D:= .s (okI kx) (.e (ah .neq (uw kx px ux) 0) (.lf (D.aS [i64 0,i64 (uw kx px ux)])) (.s (Vy kx ux k) (.s (decide ((dn kx ux k:Int)<(kx.length:Int))=true) (.s (decide ((0:Int)≤(dn kx ux k:Int))=true) (.e (!ux.getD (dn kx ux k:Int).toNat false) (.lf (D.aS [i64 0,i64 6])) (.s (decide ((dn kx ux k:Int)<(kx.length:Int))=true) (.s (decide ((0:Int)≤(dn kx ux k:Int))=true) (.lf (D.aS [i64 (px.getD (dn kx ux k:Int).toNat 0),i64 0])))))))))
theorem afG (kx px:List Int) (ux:List Bool) (k:Int) (res:D) (h0:Az res (acI kx px ux k) [true]) (h1:Az res (acI kx px ux k) [false,true]) (h2:Az res (acI kx px ux k) [false,false]):Kl 103 [cc kx px ux,u32 k] res:=fA (hX8) (acI kx px ux k) ⟨h0,fun e0=>⟨h1 e0,h2 e0⟩⟩
def Qj (nx:List Int) (us:List Bool) (f:Int):Tr D:= .e (ah .gtr (nx.length:Int) 100) (.p (.c 2) (.lf (bo true))) (.p (.c 2) (.lf (D.v (Value.bool (ah .gtr (us.length:Int) 100)))))
theorem Yd (nx:List Int) (us:List Bool) (f:Int) (res:D) (h0:Az res (Qj nx us f) [true]) (h1:Az res (Qj nx us f) [false]):Kl 75 [D.agg [ri nx,rb us,i64 f]] res:=fA (hX8) (Qj nx us f) ⟨h0,h1⟩
def O9 (ps nx:List Int) (h t:Int):Tr D:= .e (ah .gtr (ps.length:Int) 100) (.p (.c 2) (.lf (bo true))) (.p (.c 2) (.lf (D.v (Value.bool (ah .gtr (nx.length:Int) 100)))))
theorem Xp (ps nx:List Int) (h t:Int) (res:D) (h0:Az res (O9 ps nx h t) [true]) (h1:Az res (O9 ps nx h t) [false]):Kl 76 [D.agg [ri ps,ri nx,i64 h,i64 t]] res:=fA (hX8) (O9 ps nx h t) ⟨h0,h1⟩
def iF (b r p:Int):Int:=if 1≤b∧b≤1000000000∧0≤r∧r≤1000000000∧1≤p∧p≤1000000000 then 0 else 8
def qA (b r p v q:Int):Int:=if 1≤b∧b≤1000000000∧0≤r∧r≤1000000000∧1≤p∧p≤1000000000∧0≤v∧v≤b∧0≤q∧q<p∧¬ (v=b∧0<q) then 0 else 8
theorem alf (b r p:Int):Kl 69 [.agg [i64 b,i64 r,i64 p]] (i64 (iF b r p)):=by
 refine abM b r p _ ?_ ?_ ?_ ?_ ?_ ?_ ?_<;>dsimp only[Az,Rg,At,Tr.q,Tr.e,A8]
 all_goals
  intros
  simp only[aP,aX,fD,iD,dV,dS,bY,bV,aI,aQ] at *
  refine⟨trivial,?_⟩
  unfold iF
  simp only[D.v.injEq,Value.int.injEq,true_and]
  split<;>omega
theorem als (b r p:Int):Kl 67 [.agg [i64 b,i64 r,i64 p]] (i64 (iF b r p)):=by
 refine abl b r p _ ?_ ?_ ?_ ?_ ?_ ?_ ?_<;>dsimp only[Az,Rg,At,Tr.q,Tr.e,Bc]
 all_goals
  intros
  simp only[aP,aX,fD,iD,dV,dS,bY,bV,aI,aQ] at *
  refine⟨trivial,?_⟩
  unfold iF
  simp only[D.v.injEq,Value.int.injEq,true_and]
  split<;>omega
def gy (v:Int):Prop:=-9223372036854775808≤v∧v<9223372036854775808
theorem ac4 (b r p v q t:Int) (hv:gy v):Kl 52 [.agg [i64 b,i64 r,i64 p,i64 v,i64 q,u64 t]] (i64 (qA b r p v q)):=by
 obtain⟨v0,v1⟩:=hv
 have hs:1≤b→b≤1000000000→0≤v→ai .sub .i64 b v=b - v:=fun a c d=>by
  rw[dG,aY (by omega) (by omega)]
 refine aak b r p v q t _ ?_ ?_ ?_ ?_ ?_ ?_ ?_ ?_ ?_ ?_ ?_ ?_ ?_<;>dsimp only[Az,Rg,At,Tr.q,Tr.e,pI]
 all_goals
  intros
  simp only[aP,aX,fD,iD,dV,dS,bY,bV,aI,aQ] at *
  refine⟨trivial,?_⟩
  unfold qA
  simp only[D.v.injEq,Value.int.injEq,true_and]
  split<;>omega
theorem acg (b r p v q t:Int):Kl 33 [.agg [i64 b,i64 r,i64 p,i64 v,i64 q,u64 t]] (i64 (qA b r p v q)):=by
 refine aaz b r p v q t _ ?_ ?_ ?_ ?_ ?_ ?_ ?_ ?_ ?_ ?_ ?_ ?_ ?_<;>dsimp only[Az,Rg,At,Tr.q,Tr.e,pF]
 all_goals
  intros
  simp only[aP,aX,fD,iD,dV,dS,bY,bV,aI,aQ] at *
  refine⟨trivial,?_⟩
  unfold qA
  simp only[D.v.injEq,Value.int.injEq,true_and]
  split<;>omega
def pV (kx px:List Int) (ux:List Bool) (k:Int):Int:=if uw kx px ux=0 then(if ux.getD (dn kx ux k) false=true then px.getD (dn kx ux k) 0 else 0) else 0
def tK (kx px:List Int) (ux:List Bool) (k:Int):Int:=if uw kx px ux=0 then(if ux.getD (dn kx ux k) false=true then 0 else 6) else 8
theorem Y3 (kx px:List Int) (ux:List Bool):uw kx px ux=0∨uw kx px ux=8:=by unfold uw;split<;>(try split)<;>simp
theorem zH {kx px:List Int} {ux:List Bool} (h:uw kx px ux=0):kx.length=16∧gq 16 ux≤12∧∀ i,i<16→uV kx px ux i=false:=by
 unfold uw at h;split at h
 next c=>
  split at h
  next d=>exact⟨c.1,c.2,fun i hi=>(dZ 16 0).1 d i (by omega) (by omega)⟩
  next=>cases h
 next=>cases h
theorem Aa {kx:List Int} (ux:List Bool) {k:Int} (h:eX k):dn kx ux k<16:=by
 have hh:=kC h
 exact(XR (xs:=kx) (zs:=ux) (k:=k) 16 (cO k).toNat 0 (by omega)).1
theorem aoT (kx px:List Int) (ux:List Bool) (k:Int) (h:okI kx∧eX k):Kl 103 [cc kx px ux,u32 k] (.aS [i64 (pV kx px ux k),i64 (tK kx px ux k)]):=by
 obtain⟨h,hk⟩:=h
 have hp:=Y3 kx px ux
 have hlt:=Aa (kx:=kx) ux hk
 have side:uw kx px ux=0→Vy kx ux k∧kx.length=16:=fun e=>by
  obtain⟨c1,c2,_⟩:=zH e
  exact⟨⟨c1,hk,jK (by omega)⟩,c1⟩
 refine afG kx px ux k _ ?_ ?_ ?_<;>dsimp only[Az,Rg,At,Tr.q,Tr.e,acI]
 ·intro g;rw[aI] at g
  refine⟨⟨h,trivial⟩,?_⟩
  unfold pV tK;rw[if_neg g,if_neg g]
  have:uw kx px ux=8:=by omega
  rw[this]
 ·intro g g2
  rw[aQ] at g
  obtain⟨s1,s2⟩:=side g
  have b:=aA (n:=kx.length) (i:=dn kx ux k) (by omega)
  refine⟨⟨b.1,b.2,s1,h,trivial⟩,?_⟩
  rw[Int.toNat_natCast] at g2
  have g3:ux.getD (dn kx ux k) false=false:=by simpa using g2
  unfold pV tK;rw[if_pos g,if_pos g,g3];rfl
 ·intro g g2
  rw[aQ] at g
  obtain⟨s1,s2⟩:=side g
  have b:=aA (n:=kx.length) (i:=dn kx ux k) (by omega)
  refine⟨⟨b.1,b.2,b.1,b.2,s1,h,trivial⟩,?_⟩
  rw[Int.toNat_natCast] at g2
  have g3:ux.getD (dn kx ux k) false=true:=by simpa using g2
  unfold pV tK;rw[if_pos g,if_pos g,if_pos g3,if_pos g3,Int.toNat_natCast]
def gr2 (n m:Nat):Bool:=decide (100<n) || decide (100<m)
theorem nZ (n:Nat):ah .gtr (n:Int) 100=decide (100<n):=by
 rw[Bool.eq_iff_iff,fD,decide_eq_true_eq];omega
theorem aiL (nx:List Int) (us:List Bool) (f:Int):Kl 75 [.agg [ri nx,rb us,i64 f]] (bo (gr2 nx.length us.length)):=by
 refine Yd nx us f _ ?_ ?_<;>dsimp only[Az,Rg,At,Tr.q,Tr.e,Qj]
 ·intro g;rw[nZ] at g;exact⟨trivial,by unfold gr2;rw[g];rfl⟩
 ·intro g;rw[nZ] at g;exact⟨trivial,by unfold gr2;rw[nZ,g];rfl⟩
theorem ah3 (ps nx:List Int) (h t:Int):Kl 76 [.agg [ri ps,ri nx,i64 h,i64 t]] (bo (gr2 ps.length nx.length)):=by
 refine Xp ps nx h t _ ?_ ?_<;>dsimp only[Az,Rg,At,Tr.q,Tr.e,O9]
 ·intro g;rw[nZ] at g;exact⟨trivial,by unfold gr2;rw[g];rfl⟩
 ·intro g;rw[nZ] at g;exact⟨trivial,by unfold gr2;rw[nZ,g];rfl⟩
def lmC:List D→Option (D×List Prop)
 |[.agg [.v (.int .i64 b), .v (.int .i64 r), .v (.int .i64 p)]]=>some (i64 (iF b r p),[])
 |_=>none
theorem ahZ (args res l) (h:lmC args=some (res,l)) (hl:aJ l):Kl 69 args res:=by
 unfold lmC at h;split at h
 ·obtain⟨rfl,rfl⟩:=dB h
  exact alf _ _ _
 ·cases h
theorem agw (args res l) (h:lmC args=some (res,l)) (hl:aJ l):Kl 67 args res:=by
 unfold lmC at h;split at h
 ·obtain⟨rfl,rfl⟩:=dB h
  exact als _ _ _
 ·cases h
def bkC:List D→Option (D×List Prop)
 |[.agg [.v (.int .i64 b), .v (.int .i64 r), .v (.int .i64 p), .v (.int .i64 v), .v (.int .i64 q), .v (.int .u64 t)]]=>some (i64 (qA b r p v q),[gy v])
 |_=>none
theorem amX (args res l) (h:bkC args=some (res,l)) (hl:aJ l):Kl 52 args res:=by
 unfold bkC at h;split at h
 ·obtain⟨rfl,rfl⟩:=dB h;obtain⟨h0,_⟩:=hl
  exact ac4 _ _ _ _ _ _ h0
 ·cases h
def bkD:List D→Option (D×List Prop)
 |[.agg [.v (.int .i64 b), .v (.int .i64 r), .v (.int .i64 p), .v (.int .i64 v), .v (.int .i64 q), .v (.int .u64 t)]]=>some (i64 (qA b r p v q),[])
 |_=>none
theorem amO (args res l) (h:bkD args=some (res,l)) (hl:aJ l):Kl 33 args res:=by
 unfold bkD at h;split at h
 ·obtain⟨rfl,rfl⟩:=dB h
  exact acg _ _ _ _ _ _
 ·cases h
def fdC:List D→Option (D×List Prop)
 |[.rc [.ints .u32 kx, .ints .i64 px, .bools ux], .v (.int .u32 k)]=>some ((.aS [i64 (pV kx px ux k),i64 (tK kx px ux k)]),[okI kx∧eX k])
 |_=>none
theorem alm (args res l) (h:fdC args=some (res,l)) (hl:aJ l):Kl 103 args res:=by
 unfold fdC at h;split at h
 ·obtain⟨rfl,rfl⟩:=dB h;obtain⟨h0,_⟩:=hl
  exact aoT _ _ _ _ h0
 ·cases h
def ace:List D→Option (D×List Prop)
 |[.agg [.rc [.ints .i64 nx], .rc [.bools us], .v (.int .i64 f)]]=>some (bo (gr2 nx.length us.length),[])
 |_=>none
theorem adM (args res l) (h:ace args=some (res,l)) (hl:aJ l):Kl 75 args res:=by
 unfold ace at h;split at h
 ·obtain⟨rfl,rfl⟩:=dB h
  exact aiL _ _ _
 ·cases h
def acU:List D→Option (D×List Prop)
 |[.agg [.rc [.ints .i64 ps], .rc [.ints .i64 nx], .v (.int .i64 h), .v (.int .i64 t)]]=>some (bo (gr2 ps.length nx.length),[])
 |_=>none
theorem ab8 (args res l) (h:acU args=some (res,l)) (hl:aJ l):Kl 76 args res:=by
 unfold acU at h;split at h
 ·obtain⟨rfl,rfl⟩:=dB h
  exact ah3 _ _ _ _
 ·cases h
def X9:aB:=aF 69 (.call lmC) (aF 67 (.call lmC) (aF 52 (.call bkC) (aF 33 (.call bkD) (aF 103 (.call fdC) (aF 75 (.call ace) (aF 76 (.call acU) X8))))))
theorem SE:bT Pg X9:=aj ahZ (aj agw (aj amX (aj amO (aj alm (aj adM (aj ab8 hX8))))))
abbrev kr (x1 x2 x3 x4 x5 x6:List Int):D:= .rc [.ints .i64 x1, .ints .i64 x2, .ints .i64 x3, .ints .i64 x4, .ints .i64 x5, .ints .u64 x6]
abbrev tbD (n:Int) (ks x1 x2 x3 x4 x5 x6 nx:List Int) (us:List Bool) (fr:Int) (kx px:List Int) (ux:List Bool) (ps no:List Int) (h t:Int):D:= .agg [i64 n,ru ks,kr x1 x2 x3 x4 x5 x6,ri nx,rb us,i64 fr,cc kx px ux,ri ps,ri no,i64 h,i64 t]
structure Tb where
 n:Int
 ks:List Int
 x1:List Int
 x2:List Int
 x3:List Int
 x4:List Int
 x5:List Int
 x6:List Int
 nx:List Int
 us:List Bool
 fr:Int
 kx:List Int
 px:List Int
 ux:List Bool
 ps:List Int
 no:List Int
 h:Int
 t:Int
abbrev Tb.d (T:Tb):D:=tbD T.n T.ks T.x1 T.x2 T.x3 T.x4 T.x5 T.x6 T.nx T.us T.fr T.kx T.px T.ux T.ps T.no T.h T.t
def Tb.b (T:Tb):BX:=BX.cells [i64 T.n,ru T.ks,kr T.x1 T.x2 T.x3 T.x4 T.x5 T.x6,ri T.nx,rb T.us,i64 T.fr,cc T.kx T.px T.ux,ri T.ps,ri T.no,i64 T.h,i64 T.t] false
def nC (T:Tb) (o u:Int) (m:Nat) (g i:Int) (l:List Int):Cs:=⟨TT.of [(1,D.ptr 32 0),(2,i64 o),(5,D.sl 1952 0 m ⟨1,0⟩),(7,i64 u),(68,rb T.us),(69,i64 g),(70,i64 i)],147,[],[(32,T.b),(1952,BX.row [.ints .i64 l] false)],none,0⟩
def kU (T:Tb) (o:Int) (m:Nat) (i:Int) (l:List Int):Cs:=⟨TT.of [(1,D.ptr 32 0),(2,i64 o),(3,D.sl 2208 0 m ⟨1,0⟩),(5,i64 i)],160,[],[(32,T.b),(2208,BX.row [.ints .i64 l] false)],none,0⟩
def BO (T:Tb) (o u g i:Int):Cs:=⟨TT.of [(2,i64 o),(7,i64 u),(134,cc T.kx T.px T.ux),(135,i64 g),(136,i64 i)],147,[],[],none,0⟩
structure Pt where
 te:Int
 b0:Int
 r0:Int
 p0:Int
 b1:Int
 r1:Int
 p1:Int
 b2:Int
 r2:Int
 p2:Int
 ob:Int
 orr:Int
 op:Int
 ov:Int
 oq:Int
 oa:Int
 U:Tb
 E:Tb
 rv:List Int
 ta:Int
 tl:Int
 tc:Int
abbrev oJ (b0 r0 p0 b1 r1 p1 b2 r2 p2:Int):D:= .agg [i64 b0,i64 r0,i64 p0,i64 b1,i64 r1,i64 p1,i64 b2,i64 r2,i64 p2]
def Pt.d (Q:Pt):D:= .agg [u32 Q.te,i64 Q.b0,i64 Q.r0,i64 Q.p0,i64 Q.b1,i64 Q.r1,i64 Q.p1,i64 Q.b2,i64 Q.r2,i64 Q.p2,i64 Q.ob,i64 Q.orr,i64 Q.op,i64 Q.ov,i64 Q.oq,u64 Q.oa,
 i64 Q.U.n,ru Q.U.ks,kr Q.U.x1 Q.U.x2 Q.U.x3 Q.U.x4 Q.U.x5 Q.U.x6,ri Q.U.nx,rb Q.U.us,i64 Q.U.fr,cc Q.U.kx Q.U.px Q.U.ux,ri Q.U.ps,ri Q.U.no,i64 Q.U.h,i64 Q.U.t,
 i64 Q.E.n,ru Q.E.ks,kr Q.E.x1 Q.E.x2 Q.E.x3 Q.E.x4 Q.E.x5 Q.E.x6,ri Q.E.nx,rb Q.E.us,i64 Q.E.fr,cc Q.E.kx Q.E.px Q.E.ux,ri Q.E.ps,ri Q.E.no,i64 Q.E.h,i64 Q.E.t,
 ru Q.rv,u64 Q.ta,u64 Q.tl,u64 Q.tc]
def TS (xs:List Int) (u o m i:Int):Cs:=⟨TT.of [(0,ru xs),(1,u32 u),(4,i64 o),(7,i64 m),(8,i64 i)],19,[],[],none,0⟩
def RZ (xs:List Int) (u o m i:Int):Tr (Ex×Cs):= .e (ah .lss i m) (.s (decide (i< ↑(xs.length))=true) (.s (decide (0≤i)=true) (.e (ah .eql u (xs.getD i.toNat 0)) (.lf (Ex.ret,(TS (xs) (u) (i) (m) (i)))) (.lf (Ex.normal,(TS (xs) (u) (o) (m) (ai .add .i64 i 1))))))) (.lf (Ex.exit 0,(TS (xs) (u) (o) (m) (i))))
theorem Ig (xs:List Int) (u o m i:Int) (σ:St) (e:Ex) (h0:Rg 135 0 e σ (RZ xs u o m i) [true,true]) (h1:Rg 135 0 e σ (RZ xs u o m i) [true,false]) (h2:Rg 135 0 e σ (RZ xs u o m i) [false]):Rn 135 0 (TS xs u o m i).abs e σ:=qH (hX8) [[0,1,4,7,8]] [] (RZ xs u o m i) ⟨fun e0=>⟨h0 e0,h1 e0⟩,h2⟩
def ajG (xs:List Int) (u o m i:Int):Tr D:= .p (.l [[0,1,4,7,8]] [] (TS xs u 0 (↑(xs.length)) 0) (Ex.exit 0) (TS xs u o m i)) (.s (Rl 135 0 (TS xs u 0 (↑(xs.length)) 0).abs (Ex.exit 0) (TS xs u o m i).abs) (.k ((TS xs u 0 (↑(xs.length)) 0=TS xs u 0 (↑(xs.length)) 0)) rfl (.lf (i64 (-1)))))
theorem aar (xs:List Int) (u o m i:Int) (res:D) (h0:Az res (ajG xs u o m i) []):Kl 135 [ru xs,u32 u] res:=fA (hX8) (ajG xs u o m i) h0
def ajr (xs:List Int) (u o m i:Int):Tr D:= .p (.l [[0,1,4,7,8]] [] (TS xs u 0 (↑(xs.length)) 0) Ex.ret (TS xs u o m i)) (.s (Rl 135 0 (TS xs u 0 (↑(xs.length)) 0).abs (Ex.ret) (TS xs u o m i).abs) (.k ((TS xs u 0 (↑(xs.length)) 0=TS xs u 0 (↑(xs.length)) 0)) rfl (.lf (i64 o))))
theorem ZX (xs:List Int) (u o m i:Int) (res:D) (h0:Az res (ajr xs u o m i) []):Kl 135 [ru xs,u32 u] res:=fA (hX8) (ajr xs u o m i) h0
def xiN (xs:List Int) (u:Int):Int:=iW (fun i=>u ==xs.getD i 0) xs.length 0
theorem aoU (xs:List Int) (n:Int) (h:xs.length≤200):Kl 135 [ru xs,u32 n] (i64 (xiN xs n)):=by
 refine gV (b:=dh Pg 135 0) (fun i=>TS xs n 0 xs.length (i:Int)) xs.length (fun i=>n ==xs.getD i 0) (fun v=>Kl 135 [ru xs,u32 n] (i64 v)) ?_ ?_ ?_
 ·intro i hi hp σ e hr
  refine Ig xs n 0 xs.length i σ e ?_ ?_ ?_<;>dsimp only[Az,Rg,At,Tr.q,Tr.e,RG,RZ]
  ·intro _ g;rw[Int.toNat_natCast,bY] at g;rw[g] at hp;simp at hp
  ·intro _ _;rw[dW hi h];exact⟨⟨(aA hi).1,(aA hi).2,trivial⟩,hr⟩
  ·intro g;rw[aX] at g;omega
 ·intro hr
  refine aar xs n 0 xs.length xs.length _ ⟨⟨au (hr _ _ (Ig xs n 0 xs.length xs.length _ _ ?_ ?_ ?_)),trivial⟩,rfl⟩
  ·intro g;rw[aP] at g;omega
  ·intro g;rw[aP] at g;omega
  ·intro _;exact⟨trivial,rfl,rfl⟩
 ·intro j hj hp hr
  refine ZX xs n j xs.length j _ ⟨⟨au (hr _ _ (Ig xs n 0 xs.length j _ _ ?_ ?_ ?_)),trivial⟩,rfl⟩
  ·intro _ _;exact⟨⟨(aA hj).1,(aA hj).2,trivial⟩,rfl,rfl⟩
  ·intro _ g;rw[Int.toNat_natCast,bV] at g;simp at hp;exact absurd hp g
  ·intro g;rw[aX] at g;omega
def xiC:List D→Option (D×List Prop)
 |[.rc [.ints .u32 xs], .v (.int .u32 u)]=>some (i64 (xiN xs u),[xs.length≤200])
 |_=>none
theorem aee (args res l) (h:xiC args=some (res,l)) (hl:aJ l):Kl 135 args res:=by
 unfold xiC at h;split at h
 ·obtain⟨rfl,rfl⟩:=dB h;obtain⟨h0,_⟩:=hl
  exact aoU _ _ h0
 ·cases h
def aaX (b0 r0 p0 b1 r1 p1 b2 r2 p2:Int):Tr D:= .p (.u) (.p (.c 0) (.e (ah .neq (iF b0 r0 p0) 0) (.lf (bo false)) (.p (.c 0) (.e (ah .neq (iF b1 r1 p1) 0) (.lf (bo false)) (.p (.c 0) (.e (ah .neq (iF b2 r2 p2) 0) (.lf (bo false)) (.p (.c 0) (.lf (bo true)))))))))
theorem aeT (b0 r0 p0 b1 r1 p1 b2 r2 p2:Int) (res:D) (h0:Az res (aaX b0 r0 p0 b1 r1 p1 b2 r2 p2) [true]) (h1:Az res (aaX b0 r0 p0 b1 r1 p1 b2 r2 p2) [false,true]) (h2:Az res (aaX b0 r0 p0 b1 r1 p1 b2 r2 p2) [false,false,true]) (h3:Az res (aaX b0 r0 p0 b1 r1 p1 b2 r2 p2) [false,false,false]):Kl 37 [oJ b0 r0 p0 b1 r1 p1 b2 r2 p2] res:=fA (SE) (aaX b0 r0 p0 b1 r1 p1 b2 r2 p2) ⟨h0,fun e0=>⟨h1 e0,fun e1=>⟨h2 e0 e1,h3 e0 e1⟩⟩⟩
def aav (b0 r0 p0 b1 r1 p1 b2 r2 p2:Int):Tr D:= .p (.u) (.p (.c 0) (.e (ah .neq (iF b0 r0 p0) 0) (.lf (bo false)) (.p (.c 0) (.e (ah .neq (iF b1 r1 p1) 0) (.lf (bo false)) (.p (.c 0) (.e (ah .neq (iF b2 r2 p2) 0) (.lf (bo false)) (.p (.c 0) (.lf (bo true)))))))))
theorem ae3 (b0 r0 p0 b1 r1 p1 b2 r2 p2:Int) (res:D) (h0:Az res (aav b0 r0 p0 b1 r1 p1 b2 r2 p2) [true]) (h1:Az res (aav b0 r0 p0 b1 r1 p1 b2 r2 p2) [false,true]) (h2:Az res (aav b0 r0 p0 b1 r1 p1 b2 r2 p2) [false,false,true]) (h3:Az res (aav b0 r0 p0 b1 r1 p1 b2 r2 p2) [false,false,false]):Kl 27 [oJ b0 r0 p0 b1 r1 p1 b2 r2 p2] res:=fA (SE) (aav b0 r0 p0 b1 r1 p1 b2 r2 p2) ⟨h0,fun e0=>⟨h1 e0,fun e1=>⟨h2 e0 e1,h3 e0 e1⟩⟩⟩
def nV (b0 r0 p0 b1 r1 p1 b2 r2 p2:Int):Bool:=decide (iF b0 r0 p0=0) && (decide (iF b1 r1 p1=0) && decide (iF b2 r2 p2=0))
theorem anJ (b0 r0 p0 b1 r1 p1 b2 r2 p2:Int):Kl 37 [oJ b0 r0 p0 b1 r1 p1 b2 r2 p2] (bo (nV b0 r0 p0 b1 r1 p1 b2 r2 p2)):=by
 unfold nV
 refine aeT b0 r0 p0 b1 r1 p1 b2 r2 p2 _ ?_ ?_ ?_ ?_<;>dsimp only[Az,Rg,At,Tr.q,Tr.e,aaX]
 ·intro g;rw[aI] at g;exact⟨trivial,by rw[decide_eq_false g];rfl⟩
 ·intro g g1;rw[aQ] at g;rw[aI] at g1;exact⟨trivial,by rw[decide_eq_true g,decide_eq_false g1];rfl⟩
 ·intro g g1 g2;rw[aQ] at g g1;rw[aI] at g2;exact⟨trivial,by rw[decide_eq_true g,decide_eq_true g1,decide_eq_false g2];rfl⟩
 ·intro g g1 g2;rw[aQ] at g g1 g2;exact⟨trivial,by rw[decide_eq_true g,decide_eq_true g1,decide_eq_true g2];rfl⟩
theorem aoe (b0 r0 p0 b1 r1 p1 b2 r2 p2:Int):Kl 27 [oJ b0 r0 p0 b1 r1 p1 b2 r2 p2] (bo (nV b0 r0 p0 b1 r1 p1 b2 r2 p2)):=by
 unfold nV
 refine ae3 b0 r0 p0 b1 r1 p1 b2 r2 p2 _ ?_ ?_ ?_ ?_<;>dsimp only[Az,Rg,At,Tr.q,Tr.e,aav]
 ·intro g;rw[aI] at g;exact⟨trivial,by rw[decide_eq_false g];rfl⟩
 ·intro g g1;rw[aQ] at g;rw[aI] at g1;exact⟨trivial,by rw[decide_eq_true g,decide_eq_false g1];rfl⟩
 ·intro g g1 g2;rw[aQ] at g g1;rw[aI] at g2;exact⟨trivial,by rw[decide_eq_true g,decide_eq_true g1,decide_eq_false g2];rfl⟩
 ·intro g g1 g2;rw[aQ] at g g1 g2;exact⟨trivial,by rw[decide_eq_true g,decide_eq_true g1,decide_eq_true g2];rfl⟩
def vaC:List D→Option (D×List Prop)
 |[.agg [.v (.int .i64 b0), .v (.int .i64 r0), .v (.int .i64 p0), .v (.int .i64 b1), .v (.int .i64 r1), .v (.int .i64 p1), .v (.int .i64 b2), .v (.int .i64 r2), .v (.int .i64 p2)]]=>some (bo (nV b0 r0 p0 b1 r1 p1 b2 r2 p2),[])
 |_=>none
theorem adu (args res l) (h:vaC args=some (res,l)) (hl:aJ l):Kl 37 args res:=by
 unfold vaC at h;split at h
 ·obtain⟨rfl,rfl⟩:=dB h
  exact anJ _ _ _ _ _ _ _ _ _
 ·cases h
theorem acT (args res l) (h:vaC args=some (res,l)) (hl:aJ l):Kl 27 args res:=by
 unfold vaC at h;split at h
 ·obtain⟨rfl,rfl⟩:=dB h
  exact aoe _ _ _ _ _ _ _ _ _
 ·cases h
def Pt.b (Q:Pt):BX:=BX.cells [u32 Q.te,i64 Q.b0,i64 Q.r0,i64 Q.p0,i64 Q.b1,i64 Q.r1,i64 Q.p1,i64 Q.b2,i64 Q.r2,i64 Q.p2,i64 Q.ob,i64 Q.orr,i64 Q.op,i64 Q.ov,i64 Q.oq,u64 Q.oa,
 i64 Q.U.n,ru Q.U.ks,kr Q.U.x1 Q.U.x2 Q.U.x3 Q.U.x4 Q.U.x5 Q.U.x6,ri Q.U.nx,rb Q.U.us,i64 Q.U.fr,cc Q.U.kx Q.U.px Q.U.ux,ri Q.U.ps,ri Q.U.no,i64 Q.U.h,i64 Q.U.t,
 i64 Q.E.n,ru Q.E.ks,kr Q.E.x1 Q.E.x2 Q.E.x3 Q.E.x4 Q.E.x5 Q.E.x6,ri Q.E.nx,rb Q.E.us,i64 Q.E.fr,cc Q.E.kx Q.E.px Q.E.ux,ri Q.E.ps,ri Q.E.no,i64 Q.E.h,i64 Q.E.t,
 ru Q.rv,u64 Q.ta,u64 Q.tl,u64 Q.tc] false
def Ug (Q:Pt) (u:Int) (o:Bool) (i:Int):Cs:=⟨TT.of [(1,u32 u),(2,D.ptr 64 0),(4,bo o),(5,i64 i)],20,[],[(64,Q.b)],none,0⟩
def vF (T:Tb) (b r p m:Int) (o:Bool) (i:Int):Cs:=⟨TT.of [(2,u32 m),(3,D.ptr 96 0),(4,D.ptr 128 0),(6,bo o),(7,i64 i)],39,[],[(96,T.b),(128,BX.cells [i64 b,i64 r,i64 p] false)],none,0⟩
def Tq (Q:Pt) (u:Int) (o:Bool) (i:Int):Tr (Ex×Cs):= .e (ah .lss i ↑(Q.rv.length)) (.s (decide (i< ↑(Q.rv.length))=true) (.s (decide (0≤i)=true) (.e (ah .eql (Q.rv.getD i.toNat 0) u) (.lf (Ex.ret,(Ug Q (u) (true) (i)))) (.lf (Ex.normal,(Ug Q (u) (o) (ai .add .i64 i 1))))))) (.lf (Ex.exit 0,(Ug Q (u) (o) (i))))
theorem JO (Q:Pt) (u:Int) (o:Bool) (i:Int) (σ:St) (e:Ex) (h0:Rg 19 0 e σ (Tq Q u o i) [true,true]) (h1:Rg 19 0 e σ (Tq Q u o i) [true,false]) (h2:Rg 19 0 e σ (Tq Q u o i) [false]):Rn 19 0 (Ug Q u o i).abs e σ:=qH (SE) [[1,2,4,5]] [(64,64)] (Tq Q u o i) ⟨fun e0=>⟨h0 e0,h1 e0⟩,h2⟩
def ajw (Q:Pt) (u i:Int):Tr D:= .p (.l [[1,2,4,5]] [(64,64)] (Ug Q u false 0) (Ex.exit 0) (Ug Q u false i)) (.s (Rl 19 0 (Ug Q u false 0).abs (Ex.exit 0) (Ug Q u false i).abs) (.k ((Ug Q u false 0=Ug Q u false 0)) rfl (.lf (bo false))))
theorem abP (Q:Pt) (u i:Int) (res:D) (h0:Az res (ajw Q u i) []):Kl 19 [Q.d,u32 u] res:=fA (SE) (ajw Q u i) h0
def aju (Q:Pt) (u i:Int):Tr D:= .p (.l [[1,2,4,5]] [(64,64)] (Ug Q u false 0) Ex.ret (Ug Q u true i)) (.s (Rl 19 0 (Ug Q u false 0).abs (Ex.ret) (Ug Q u true i).abs) (.k ((Ug Q u false 0=Ug Q u false 0)) rfl (.lf (bo true))))
theorem aa4 (Q:Pt) (u i:Int) (res:D) (h0:Az res (aju Q u i) []):Kl 19 [Q.d,u32 u] res:=fA (SE) (aju Q u i) h0
def Gh (T:Tb) (b r p m:Int) (o:Bool) (i:Int):=vF T (b) (r) (p) (m) (o) (ai .add .i64 i 1)
def OD (T:Tb) (r p i:Int):=T.x2.getD i.toNat 0 ==r && (T.x3.getD i.toNat 0 ==p && true)
def zK (T:Tb) (b r p m:Int) (o:Bool) (i:Int):Tr (Ex×Cs):= .e (ah .lss i T.n) (.s (decide (i< ↑(T.us.length))=true) (.s (decide (0≤i)=true) (.e (T.us.getD i.toNat false) (.p (.c 7) (.s (decide (i< ↑(T.x1.length))=true) (.s (decide (0≤i)=true) (.e (!(T.x1.getD i.toNat 0 ==b && (OD T r p i))) (.p (.c 7) (.lf (Ex.ret,(vF T (b) (r) (p) (m) (false) (i))))) (.p (.c 6) (.s (decide (i< ↑(T.ks.length))=true) (.s (decide (0≤i)=true) (.e (ah .gtr (T.ks.getD i.toNat 0) m) (.lf (Ex.ret,(vF T (b) (r) (p) (m) (false) (i)))) (.lf (Ex.normal,(Gh T b r p m o i))))))))))) (.p (.c 9) (.lf (Ex.normal,(Gh T b r p m o i))))))) (.lf (Ex.exit 0,(vF T (b) (r) (p) (m) (o) (i))))
theorem Dy (T:Tb) (b r p m:Int) (o:Bool) (i:Int) (σ:St) (e:Ex) (h0:Rg 56 0 e σ (zK T b r p m o i) [true,true,true]) (h1:Rg 56 0 e σ (zK T b r p m o i) [true,true,false,true]) (h2:Rg 56 0 e σ (zK T b r p m o i) [true,true,false,false]) (h3:Rg 56 0 e σ (zK T b r p m o i) [true,false]) (h4:Rg 56 0 e σ (zK T b r p m o i) [false]):Rn 56 0 (vF T b r p m o i).abs e σ:=qH (SE) [[2,3,4,6,7]] [(96,96),(128,128)] (zK T b r p m o i) ⟨fun e0=>⟨fun e1=>⟨h0 e0 e1,fun e2=>⟨h1 e0 e1 e2,h2 e0 e1 e2⟩⟩,h3 e0⟩,h4⟩
def aeF (T:Tb) (b r p m i:Int):Tr D:= .p (.l [[2,3,4,6,7]] [(96,96),(128,128)] (vF T b r p m false 0) (Ex.exit 0) (vF T b r p m false i)) (.s (Rl 56 0 (vF T b r p m false 0).abs (Ex.exit 0) (vF T b r p m false i).abs) (.k ((vF T b r p m false 0=vF T b r p m false 0)) rfl (.lf (bo true))))
theorem Vu (T:Tb) (b r p m i:Int) (res:D) (h0:Az res (aeF T b r p m i) []):Kl 56 [T.d,D.agg [i64 b,i64 r,i64 p],u32 m] res:=fA (SE) (aeF T b r p m i) h0
def ad5 (T:Tb) (b r p m i:Int):Tr D:= .p (.l [[2,3,4,6,7]] [(96,96),(128,128)] (vF T b r p m false 0) Ex.ret (vF T b r p m false i)) (.s (Rl 56 0 (vF T b r p m false 0).abs (Ex.ret) (vF T b r p m false i).abs) (.k ((vF T b r p m false 0=vF T b r p m false 0)) rfl (.lf (bo false))))
theorem Xf (T:Tb) (b r p m i:Int) (res:D) (h0:Az res (ad5 T b r p m i) []):Kl 56 [T.d,D.agg [i64 b,i64 r,i64 p],u32 m] res:=fA (SE) (ad5 T b r p m i) h0
def isB (xs:List Int) (u:Int):Bool:=!decide (iW (fun i=>xs.getD i 0 ==u) xs.length 0<0)
theorem aoS (Q:Pt) (u:Int) (h:Q.rv.length≤200):Kl 19 [Q.d,u32 u] (bo (isB Q.rv u)):=by
 refine gV (b:=dh Pg 19 0) (fun i=>Ug Q u false (i:Int)) Q.rv.length (fun i=>Q.rv.getD i 0 ==u) (fun v=>Kl 19 [Q.d,u32 u] (bo (!decide (v<0)))) ?_ ?_ ?_
 ·intro i hi hp σ e hr
  refine JO Q u false i σ e ?_ ?_ ?_<;>dsimp only[Az,Rg,At,Tr.q,Tr.e,RG,Tq]
  ·intro _ g;rw[Int.toNat_natCast,bY] at g;rw[g] at hp;simp at hp
  ·intro _ _;rw[dW hi h];exact⟨⟨(aA hi).1,(aA hi).2,trivial⟩,hr⟩
  ·intro g;rw[aX] at g;omega
 ·intro hr
  refine abP Q u Q.rv.length _ ⟨⟨au (hr _ _ (JO Q u false Q.rv.length _ _ ?_ ?_ ?_)),trivial⟩,rfl⟩
  ·intro g;rw[aP] at g;omega
  ·intro g;rw[aP] at g;omega
  ·intro _;exact⟨trivial,rfl,rfl⟩
 ·intro j hj hp hr
  refine aa4 Q u j _ ⟨⟨au (hr _ _ (JO Q u false j _ _ ?_ ?_ ?_)),trivial⟩,by simp⟩
  ·intro _ _;exact⟨⟨(aA hj).1,(aA hj).2,trivial⟩,rfl,rfl⟩
  ·intro _ g;rw[Int.toNat_natCast,bV] at g;simp at hp;exact absurd hp g
  ·intro g;rw[aX] at g;omega
def odd (T:Tb) (b r p m:Int) (i:Nat):Bool:=T.us.getD i false && ((!(T.x1.getD i 0 ==b && (T.x2.getD i 0 ==r && (T.x3.getD i 0 ==p && true)))) || ah .gtr (T.ks.getD i 0) m)
def alB (T:Tb) (b r p m:Int):Bool:=decide (iW (odd T b r p m) T.us.length 0<0)
def alS (T:Tb):Prop:=T.us.length≤200∧(T.us.length:Int)=T.n∧T.x1.length=T.us.length∧T.ks.length=T.us.length
theorem akI (T:Tb) (b r p m:Int) (h:alS T):Kl 56 [T.d, .agg [i64 b,i64 r,i64 p],u32 m] (bo (alB T b r p m)):=by
 obtain⟨h1,h2,h3,h4⟩:=h
 refine gV (b:=dh Pg 56 0) (fun i=>vF T b r p m false (i:Int)) T.us.length (odd T b r p m) (fun v=>Kl 56 [T.d, .agg [i64 b,i64 r,i64 p],u32 m] (bo (decide (v<0)))) ?_ ?_ ?_
 ·intro i hi hp σ e hr
  have ix:i<T.x1.length:=by omega
  have ik:i<T.ks.length:=by omega
  have ti:((i:Nat):Int).toNat=i:=Int.toNat_natCast i
  rw[←dW hi h1] at hr
  refine Dy T b r p m false i σ e ?_ ?_ ?_ ?_ ?_<;>dsimp only[Az,Rg,At,Tr.q,Tr.e,RG,zK]
  all_goals try simp only[ti]
  ·intro _ g1 g2
   unfold odd at hp;rw[g1] at hp
   have g3:(!(T.x1.getD i 0 ==b && (T.x2.getD i 0 ==r && (T.x3.getD i 0 ==p && true))))=true:=by have:=g2;simpa only[OD,Gh,ti] using this
   rw[g3] at hp;simp at hp
  ·intro _ g1 g2 g3
   unfold odd at hp;rw[g1,g3] at hp;simp at hp
  ·intro _ _ _ _;exact⟨by(repeat' apply And.intro)<;>first | exact trivial | exact(aA hi).1 | exact(aA hi).2 | exact(aA ix).1 | exact(aA ix).2 | exact(aA ik).2,hr⟩
  ·intro _ _;exact⟨by(repeat' apply And.intro)<;>first | exact trivial | exact(aA hi).1 | exact(aA hi).2,hr⟩
  ·intro g;rw[aX] at g;omega
 ·intro hr
  refine Vu T b r p m T.us.length _ ⟨⟨au (hr _ _ (Dy T b r p m false T.us.length _ _ ?_ ?_ ?_ ?_ ?_)),trivial⟩,rfl⟩
  ·intro g;rw[aP] at g;omega
  ·intro g;rw[aP] at g;omega
  ·intro g;rw[aP] at g;omega
  ·intro g;rw[aP] at g;omega
  ·intro _;exact⟨trivial,rfl,rfl⟩
 ·intro j hj hp hr
  have ix:j<T.x1.length:=by omega
  have ik:j<T.ks.length:=by omega
  have ti:((j:Nat):Int).toNat=j:=Int.toNat_natCast j
  refine Xf T b r p m j _ ⟨⟨au (hr _ _ (Dy T b r p m false j _ _ ?_ ?_ ?_ ?_ ?_)),trivial⟩,by rw[decide_eq_false (by omega)]⟩
  all_goals try simp only[ti]
  ·intro _ _ _;exact⟨by(repeat' apply And.intro)<;>first | exact trivial | exact(aA hj).1 | exact(aA hj).2 | exact(aA ix).1 | exact(aA ix).2 | exact(aA ik).2,rfl,rfl⟩
  ·intro _ _ _ _;exact⟨by(repeat' apply And.intro)<;>first | exact trivial | exact(aA hj).1 | exact(aA hj).2 | exact(aA ix).1 | exact(aA ix).2 | exact(aA ik).2,rfl,rfl⟩
  ·intro _ g1 g2 g3
   exfalso
   rw[ti] at g1 g3
   unfold odd at hp;rw[g1,g3] at hp
   have g4:(!(T.x1.getD j 0 ==b && (T.x2.getD j 0 ==r && (T.x3.getD j 0 ==p && true))))=false:=by have:=g2;simpa only[OD,Gh,ti] using this
   rw[g4] at hp;simp at hp
  ·intro _ g1
   exfalso
   rw[ti] at g1
   unfold odd at hp;rw[g1] at hp;simp at hp
  ·intro g;rw[aX] at g;omega
def O3 (T:Tb) (u:Int) (m:Nat) (g i:Int) (l:List Int):=nC T (8) (ai .add .i64 u 1) (m) (g) (i) (l)
def O8 (T:Tb) (i:Int):=ah .neq (tK T.kx T.px T.ux (T.ks.getD i.toNat 0)) 0
def Qx (T:Tb) (i:Int):=ah .neq (pV T.kx T.px T.ux (T.ks.getD i.toNat 0)) i
def Yx (T:Tb) (i:Int):=T.x2.getD i.toNat 0 ==0 && (T.x3.getD i.toNat 0 ==0 && true)
def Zi (T:Tb) (i:Int):=T.x5.getD i.toNat 0 ==0 && (T.x6.getD i.toNat 0 ==0 && true)
def Ou (T:Tb) (i:Int):=T.x1.getD i.toNat 0 ==0 && (Yx T i) && (T.x4.getD i.toNat 0 ==0 && (Zi T i))
def Ov (T:Tb) (i:Int):=qA (T.x1.getD i.toNat 0) (T.x2.getD i.toNat 0) (T.x3.getD i.toNat 0) (T.x4.getD i.toNat 0) (T.x5.getD i.toNat 0)
def nG (T:Tb) (o u:Int) (m:Nat) (g i:Int) (l:List Int):Tr (Ex×Cs):= .e (ah .lss i g) (.s (decide (i<(T.us.length:Int))=true) (.s (decide (0≤i)=true) (.s (l.length≤200) (.s (m=l.length) (.e (!T.us.getD i.toNat false ==inB l i) (.p (.c 3) (.lf (Ex.ret,(nC T (8) (u) (m) (g) (i) (l))))) (.p (.c 1) (.d (!T.us.getD i.toNat false) (fun e2=> .p (.c 5) (.s (decide (i<(T.ks.length:Int))=true) (.s (decide (0≤i)=true) (.e (ah .neq (T.ks.getD i.toNat 0) 0) (.p (.c 8) (.lf (Ex.ret,(nC T (8) (u) (m) (g) (i) (l))))) (.p (.c 7) (.s (decide (i<(T.x1.length:Int))=true) (.s (decide (0≤i)=true) (.e (!(Ou T i)) (.lf (Ex.ret,(nC T (8) (u) (m) (g) (i) (l)))) (.p (.d true) (.k _ e2 (.lf (Ex.normal,(nC T (o) (u) (m) (g) (ai .add .i64 i 1) (l)))))))))))))) (fun e2=> .p (.c 8) (.p (.d false) (.k _ e2 (.s (decide (i<(T.ks.length:Int))=true) (.s (decide (0≤i)=true) (.s (okI T.kx∧eX (T.ks.getD i.toNat 0)) (.e (O8 T i) (.p (.c 9) (.lf (Ex.ret,(O3 T u m g i l)))) (.p (.c 1) (.e (Qx T i) (.p (.c 6) (.lf (Ex.ret,(O3 T u m g i l)))) (.p (.c 5) (.s (decide (i<(T.x1.length:Int))=true) (.s (decide (0≤i)=true) (.s (gy (T.x4.getD i.toNat 0)) (.e (ah .neq (Ov T i) 0) (.lf (Ex.ret,(O3 T u m g i l))) (.lf (Ex.normal,(nC T (o) (ai .add .i64 u 1) (m) (g) (ai .add .i64 i 1) (l))))))))))))))))))))))))) (.lf (Ex.exit 0,(nC T (o) (u) (m) (g) (i) (l))))
theorem rV (T:Tb) (o u:Int) (m:Nat) (g i:Int) (l:List Int) (σ:St) (e:Ex) (h0:Rg 53 0 e σ (nG T o u m g i l) [true,true]) (h1:Rg 53 0 e σ (nG T o u m g i l) [true,false,true,true]) (h2:Rg 53 0 e σ (nG T o u m g i l) [true,false,true,false,true]) (h3:Rg 53 0 e σ (nG T o u m g i l) [true,false,true,false,false]) (h4:Rg 53 0 e σ (nG T o u m g i l) [true,false,false,true]) (h5:Rg 53 0 e σ (nG T o u m g i l) [true,false,false,false,true]) (h6:Rg 53 0 e σ (nG T o u m g i l) [true,false,false,false,false,true]) (h7:Rg 53 0 e σ (nG T o u m g i l) [true,false,false,false,false,false]) (h8:Rg 53 0 e σ (nG T o u m g i l) [false]):Rn 53 0 (nC T o u m g i l).abs e σ:=qH (SE) [[1,2,5,7,68,69,70]] [(32,32),(1952,1952)] (nG T o u m g i l) ⟨fun e0=>⟨h0 e0,fun e1=>⟨fun e2=>⟨h1 e0 e1 e2,fun e3=>⟨h2 e0 e1 e2 e3,h3 e0 e1 e2 e3⟩⟩,fun e2=>⟨h4 e0 e1 e2,fun e3=>⟨h5 e0 e1 e2 e3,fun e4=>⟨h6 e0 e1 e2 e3 e4,h7 e0 e1 e2 e3 e4⟩⟩⟩⟩⟩,h8⟩
def Eo (T:Tb) (o u g i:Int):Tr (Ex×Cs):= .e (ah .lss i g) (.s (decide (i<(T.kx.length:Int))=true) (.s (decide (0≤i)=true) (.e (T.ux.getD i.toNat false) (.lf (Ex.normal,(BO T (o) (ai .sub .i64 u 1) (g) (ai .add .i64 i 1)))) (.lf (Ex.normal,(BO T (o) (u) (g) (ai .add .i64 i 1))))))) (.lf (Ex.exit 2,(BO T (o) (u) (g) (i))))
theorem Ns (T:Tb) (o u g i:Int) (σ:St) (e:Ex) (h0:Rg 53 1 e σ (Eo T o u g i) [true,true]) (h1:Rg 53 1 e σ (Eo T o u g i) [true,false]) (h2:Rg 53 1 e σ (Eo T o u g i) [false]):Rn 53 1 (BO T o u g i).abs e σ:=qH (SE) [[2,7,134,135,136]] [] (Eo T o u g i) ⟨fun e0=>⟨h0 e0,h1 e0⟩,h2⟩
def qP (T:Tb) (u v:Int):Tr D:= .e (ah .lss T.n 1) (.p (.c 16) (.lf (i64 8))) (.p (.c 0) (.e (ah .gtr T.n 8) (.p (.c 14) (.lf (i64 8))) (.p (.c 5) (.e (!((T.ks.length:Int) ==T.n && ((T.x1.length:Int) ==T.n && ((T.nx.length:Int) ==T.n && ((T.ps.length:Int) ==T.n && true))))) (.p (.c 7) (.lf (i64 8))) (.p (.c 2) (.s (T.us.length≤200) (.e (ah .neq (rq T.nx T.us T.fr) 0) (.p (.c 3) (.lf (i64 8))) (.p (.c 2) (.s (okI T.kx) (.e (ah .neq (uw T.kx T.px T.ux) 0) (.lf (i64 8)) (.e (ah .neq (pG T.ps T.no T.h T.t) 0) (.lf (i64 8)) (.p (.l [[1,2,5,7,68,69,70]] [(32,32),(1952,1952)] (nC T 0 0 ((vH T.ps T.no T.h T.t).length) ((T.us.length:Int)) 0 (vH T.ps T.no T.h T.t)) (Ex.exit 0) (nC T 0 u ((vH T.ps T.no T.h T.t).length) ((T.us.length:Int)) ((T.us.length:Int)) (vH T.ps T.no T.h T.t))) (.p (.l [[2,7,134,135,136]] [] (BO T 0 u ((T.kx.length:Int)) 0) (Ex.exit 2) (BO T 0 v (T.kx.length:Int) (T.kx.length:Int))) (.s (Rl 53 0 (nC T 0 0 ((vH T.ps T.no T.h T.t).length) ((T.us.length:Int)) 0 (vH T.ps T.no T.h T.t)).abs (Ex.exit 0) (nC T 0 u ((vH T.ps T.no T.h T.t).length) ((T.us.length:Int)) ((T.us.length:Int)) (vH T.ps T.no T.h T.t)).abs) (.k ((nC T 0 0 ((vH T.ps T.no T.h T.t).length) ((T.us.length:Int)) 0 (vH T.ps T.no T.h T.t)=nC T 0 0 ((vH T.ps T.no T.h T.t).length) ((T.us.length:Int)) 0 (vH T.ps T.no T.h T.t))) rfl (.s (Rl 53 1 (BO T 0 u ((T.kx.length:Int)) 0).abs (Ex.exit 2) (BO T 0 v (T.kx.length:Int) (T.kx.length:Int)).abs) (.k ((BO T 0 u ((T.kx.length:Int)) 0=BO T 0 u ((T.kx.length:Int)) 0)) rfl (.e (ah .neq v 0) (.lf (i64 8)) (.lf (i64 0))))))))))))))))))))
theorem VO (T:Tb) (u v:Int) (res:D) (h0:Az res (qP T u v) [true]) (h1:Az res (qP T u v) [false,true]) (h2:Az res (qP T u v) [false,false,true]) (h3:Az res (qP T u v) [false,false,false,true]) (h4:Az res (qP T u v) [false,false,false,false,true]) (h5:Az res (qP T u v) [false,false,false,false,false,true]) (h6:Az res (qP T u v) [false,false,false,false,false,false,true]) (h7:Az res (qP T u v) [false,false,false,false,false,false,false]):Kl 53 [T.d] res:=fA (SE) (qP T u v) ⟨h0,fun e0=>⟨h1 e0,fun e1=>⟨h2 e0 e1,fun e2=>⟨h3 e0 e1 e2,fun e3=>⟨h4 e0 e1 e2 e3,fun e4=>⟨h5 e0 e1 e2 e3 e4,fun e5=>⟨h6 e0 e1 e2 e3 e4 e5,h7 e0 e1 e2 e3 e4 e5⟩⟩⟩⟩⟩⟩⟩
def qM (T:Tb) (o u i:Int):Tr D:= .e (ah .lss T.n 1) (.p (.c 16) (.lf (i64 8))) (.p (.c 0) (.e (ah .gtr T.n 8) (.p (.c 14) (.lf (i64 8))) (.p (.c 5) (.e (!((T.ks.length:Int) ==T.n && ((T.x1.length:Int) ==T.n && ((T.nx.length:Int) ==T.n && ((T.ps.length:Int) ==T.n && true))))) (.p (.c 7) (.lf (i64 8))) (.p (.c 2) (.s (T.us.length≤200) (.e (ah .neq (rq T.nx T.us T.fr) 0) (.p (.c 3) (.lf (i64 8))) (.p (.c 2) (.s (okI T.kx) (.e (ah .neq (uw T.kx T.px T.ux) 0) (.lf (i64 8)) (.e (ah .neq (pG T.ps T.no T.h T.t) 0) (.lf (i64 8)) (.p (.l [[1,2,5,7,68,69,70]] [(32,32),(1952,1952)] (nC T 0 0 ((vH T.ps T.no T.h T.t).length) ((T.us.length:Int)) 0 (vH T.ps T.no T.h T.t)) Ex.ret (nC T o u ((vH T.ps T.no T.h T.t).length) ((T.us.length:Int)) i (vH T.ps T.no T.h T.t))) (.s (Rl 53 0 (nC T 0 0 ((vH T.ps T.no T.h T.t).length) ((T.us.length:Int)) 0 (vH T.ps T.no T.h T.t)).abs (Ex.ret) (nC T o u ((vH T.ps T.no T.h T.t).length) ((T.us.length:Int)) i (vH T.ps T.no T.h T.t)).abs) (.k ((nC T 0 0 ((vH T.ps T.no T.h T.t).length) ((T.us.length:Int)) 0 (vH T.ps T.no T.h T.t)=nC T 0 0 ((vH T.ps T.no T.h T.t).length) ((T.us.length:Int)) 0 (vH T.ps T.no T.h T.t))) rfl (.lf (i64 o))))))))))))))))
theorem Jv (T:Tb) (o u i:Int) (res:D) (h0:Az res (qM T o u i) [true]) (h1:Az res (qM T o u i) [false,true]) (h2:Az res (qM T o u i) [false,false,true]) (h3:Az res (qM T o u i) [false,false,false,true]) (h4:Az res (qM T o u i) [false,false,false,false,true]) (h5:Az res (qM T o u i) [false,false,false,false,false,true]) (h6:Az res (qM T o u i) [false,false,false,false,false,false]):Kl 53 [T.d] res:=fA (SE) (qM T o u i) ⟨h0,fun e0=>⟨h1 e0,fun e1=>⟨h2 e0 e1,fun e2=>⟨h3 e0 e1 e2,fun e3=>⟨h4 e0 e1 e2 e3,fun e4=>⟨h5 e0 e1 e2 e3 e4,h6 e0 e1 e2 e3 e4⟩⟩⟩⟩⟩⟩
def z6 (T:Tb) (i:Nat):Bool:=T.x1.getD i 0 ==0 && (T.x2.getD i 0 ==0 && (T.x3.getD i 0 ==0 && (T.x4.getD i 0 ==0 && (T.x5.getD i 0 ==0 && T.x6.getD i 0 ==0))))
def bk6 (T:Tb) (i:Nat):Int:=qA (T.x1.getD i 0) (T.x2.getD i 0) (T.x3.getD i 0) (T.x4.getD i 0) (T.x5.getD i 0)
theorem z17 (T:Tb) (i:Nat):Ou T (i:Int)=z6 T i:=by
 unfold Ou Yx Zi z6;simp only[Int.toNat_natCast,Bool.and_true,Bool.and_assoc]
def qO (T:Tb) (l:List Int) (i:Nat):Bool:=
 (!(T.us.getD i false ==inB l i)) || (if T.us.getD i false=true then decide (tK T.kx T.px T.ux (T.ks.getD i 0)≠0∨pV T.kx T.px T.ux (T.ks.getD i 0)≠i∨bk6 T i≠0) else decide (T.ks.getD i 0≠0) || !z6 T i)
def fZ (T:Tb):Prop:=okI T.kx∧(∀ i,i<T.ks.length→eX (T.ks.getD i 0))∧(∀ i,i<T.x1.length→gy (T.x4.getD i 0))∧T.nx.length≤200∧T.us.length≤200∧T.no.length≤200∧kcS T.x1 T.x2 T.x3 T.x4 T.x5 T.x6∧FM T.kx T.px T.ux∧T.ks.length≤200∧T.ps.length≤200
def Tb.sz (T:Tb):Prop:=1≤T.n∧T.n≤8∧(T.ks.length:Int)=T.n∧(T.x1.length:Int)=T.n∧(T.nx.length:Int)=T.n∧(T.ps.length:Int)=T.n
instance (T:Tb):Decidable T.sz:=by unfold Tb.sz;exact inferInstance
def jL (T:Tb):Int:=
 if T.sz∧rq T.nx T.us T.fr=0∧uw T.kx T.px T.ux=0∧pG T.ps T.no T.h T.t=0 then
  (if iW (qO T (vH T.ps T.no T.h T.t)) T.us.length 0<0∧gq T.us.length T.us=gq T.kx.length T.ux then 0 else 8) else 8
theorem sz4 (T:Tb):(!((T.ks.length:Int) ==T.n && ((T.x1.length:Int) ==T.n && ((T.nx.length:Int) ==T.n && ((T.ps.length:Int) ==T.n && true)))))=false↔(T.ks.length:Int)=T.n∧(T.x1.length:Int)=T.n∧(T.nx.length:Int)=T.n∧(T.ps.length:Int)=T.n:=by simp
theorem xR {nx:List Int} {us:List Bool} {f:Int} (h:rq nx us f=0):us.length=nx.length:=by
 unfold rq at h;split at h
 next c=>exact c.2.2
 next=>cases h
theorem afg (T:Tb) (u:Nat) (hu:u≤200) (h:T.kx.length≤200):
  Rl 53 1 (BO T 0 u T.kx.length 0).abs (.exit 2) (BO T 0 ((u:Int) - gq T.kx.length T.ux) T.kx.length T.kx.length).abs:=by
 refine au ?_
 have z:=fF (P:=Pg) (F:=CallsD Pg) (b:=dh Pg 53 1) (fun i=>BO T 0 ((u:Int) - gq i T.ux) T.kx.length (i:Int)) T.kx.length (fun _=>True) (fun i hi _ σ e hr=>?_)
  (σ:=(BO T 0 ((u:Int) - gq T.kx.length T.ux) T.kx.length T.kx.length).abs) (e:= .exit 2) ?_ T.kx.length 0 (by omega) (fun _ _ _=>trivial)
 ·simpa [gq,cnt] using z
 ·have hc:=cnt_le (fun i=>T.ux.getD i false) i
  have e1:ai .sub .i64 ((u:Int) - gq i T.ux) 1=(u:Int) - ((gq i T.ux+1:Nat):Int):=by unfold gq;rw[dG,aY (by omega) (by omega)];omega
  refine Ns T 0 _ T.kx.length i σ e ?_ ?_ ?_<;>dsimp only[Az,Rg,At,Tr.q,Tr.e,RG,Eo]
  ·intro _ g
   rw[Int.toNat_natCast] at g
   rw[dW hi h,e1]
   refine⟨⟨(aA hi).1,(aA hi).2,trivial⟩,?_⟩
   have e2:gq (i+1) T.ux=gq i T.ux+1:=by simp only[gq,cnt,g,cond_true]
   rw[e2] at hr;exact hr
  ·intro _ g
   rw[Int.toNat_natCast] at g
   rw[dW hi h]
   refine⟨⟨(aA hi).1,(aA hi).2,trivial⟩,?_⟩
   have e2:gq (i+1) T.ux=gq i T.ux:=by simp only[gq,cnt,g,cond_false,Nat.add_zero]
   rw[e2] at hr;exact hr
  ·intro g;rw[aX] at g;omega
 ·refine Ns T 0 _ T.kx.length T.kx.length _ _ ?_ ?_ ?_<;>dsimp only[Az,Rg,At,Tr.q,Tr.e,RG,Eo]
  ·intro g;rw[aP] at g;omega
  ·intro g;rw[aP] at g;omega
  ·intro _;exact⟨trivial,rfl,rfl⟩
theorem aoX (T:Tb) (h:fZ T):Kl 53 [T.d] (i64 (jL T)):=by
 unfold jL
 obtain⟨hI,hK,hB,hnx,hus,hno,_⟩:=h
 by_cases c:T.sz∧rq T.nx T.us T.fr=0∧uw T.kx T.px T.ux=0∧pG T.ps T.no T.h T.t=0
 ·rw[if_pos c]
  obtain⟨⟨s1,s2,s3,s4,s5,s6⟩,a1,a2,a3⟩:=c
  have hun:=xR a1
  have hl:(vH T.ps T.no T.h T.t).length≤200:=by
   unfold vH;rw[if_pos a3]
   have:=jE (Bh (yD _) (DU a3));omega
  generalize hlq:vH T.ps T.no T.h T.t=l at *
  have hct:=cnt_le (fun i=>T.us.getD i false) T.us.length
  have hM:=afg T (gq T.us.length T.us) (by unfold gq;omega) hI.1
  have hsz:=(sz4 T).2 ⟨s3,s4,s5,s6⟩
  have nsz:¬ (!((T.ks.length:Int) ==T.n && ((T.x1.length:Int) ==T.n && ((T.nx.length:Int) ==T.n && ((T.ps.length:Int) ==T.n && true)))))=true:=by rw[hsz];simp
  refine gV (b:=dh Pg 53 0) (fun i=>nC T 0 (gq i T.us:Nat) l.length T.us.length (i:Int) l) T.us.length (qO T l) (fun v=>Kl 53 [T.d] (i64 (if v<0∧gq T.us.length T.us=gq T.kx.length T.ux then 0 else 8))) ?_ ?_ ?_
  ·intro i hi hp σ e hr
   have n1:=aA hi
   have n2:=aA (n:=T.ks.length) (i:=i) (by omega)
   have n3:=aA (n:=T.x1.length) (i:=i) (by omega)
   have hk:eX (T.ks.getD (i:Int).toNat 0):=by rw[Int.toNat_natCast];exact hK i (by omega)
   have hb:gy (T.x4.getD (i:Int).toNat 0):=by rw[Int.toNat_natCast];exact hB i (by omega)
   simp only[qO,Bool.or_eq_false_iff] at hp
   refine rV T 0 _ _ T.us.length i l σ e ?_ ?_ ?_ ?_ ?_ ?_ ?_ ?_ ?_<;>dsimp only[Az,Rg,At,Tr.q,Tr.e,RG,nG]
   ·intro _ g;rw[Int.toNat_natCast,hp.1] at g;cases g
   all_goals try (intro _ _ g1;rw[Int.toNat_natCast] at g1)
   ·intro g2
    have g1':T.us.getD i false=false:=by simpa using g1
    rw[Int.toNat_natCast,aI] at g2
    have:=hp.2;rw[g1',if_neg (by simp),Bool.or_eq_false_iff,decide_eq_false_iff_not] at this;exact absurd g2 this.1
   ·intro _ g2
    have g1':T.us.getD i false=false:=by simpa using g1
    rw[z17] at g2
    have:=hp.2;rw[g1',if_neg (by simp),Bool.or_eq_false_iff,g2] at this;cases this.2
   ·intro _ _
    have g1':T.us.getD i false=false:=by simpa using g1
    rw[dW hi hus]
    refine⟨⟨n3.1,n3.2,n2.1,n2.2,rfl,hl,n1.1,n1.2,trivial⟩,?_⟩
    have e2:gq (i+1) T.us=gq i T.us:=by simp only[gq,cnt,g1',cond_false,Nat.add_zero]
    rw[e2] at hr;exact hr
   ·intro g2
    have g1':T.us.getD i false=true:=by simpa using g1
    unfold O8 at g2;rw[Int.toNat_natCast,aI] at g2
    have:=hp.2;rw[g1',if_pos rfl,decide_eq_false_iff_not] at this;exact absurd (.inl g2) this
   ·intro _ g2
    have g1':T.us.getD i false=true:=by simpa using g1
    unfold Qx at g2;rw[Int.toNat_natCast,aI] at g2
    have:=hp.2;rw[g1',if_pos rfl,decide_eq_false_iff_not] at this;exact absurd (.inr (.inl g2)) this
   ·intro _ _ g2
    have g1':T.us.getD i false=true:=by simpa using g1
    unfold Ov at g2;rw[Int.toNat_natCast,aI] at g2
    have:=hp.2;rw[g1',if_pos rfl,decide_eq_false_iff_not] at this;exact absurd (.inr (.inr g2)) this
   ·intro _ _ _
    have g1':T.us.getD i false=true:=by simpa using g1
    have e2:gq (i+1) T.us=gq i T.us+1:=by simp only[gq,cnt,g1',cond_true]
    have e3:=cnt1 (q:=fun i=>T.us.getD i false) hi hus
    rw[dW hi hus];unfold gq;rw[e3]
    refine⟨⟨hb,n3.1,n3.2,⟨hI,hk⟩,n2.1,n2.2,rfl,hl,n1.1,n1.2,trivial⟩,?_⟩
    rw[e2] at hr;exact hr
   ·intro g;rw[aX] at g;omega
  ·intro hr
   have hL:Rl 53 0 (nC T 0 0 l.length T.us.length 0 l).abs (.exit 0) (nC T 0 (gq T.us.length T.us:Nat) l.length T.us.length T.us.length l).abs:=by
    refine au (hr _ _ ?_)
    have c0:¬ ah .lss ((T.us.length:Nat):Int) (T.us.length:Int)=true:=by rw[aP];omega
    refine rV T 0 _ _ T.us.length T.us.length l _ _ ?_ ?_ ?_ ?_ ?_ ?_ ?_ ?_ ?_<;>dsimp only[Az,Rg,At,Tr.q,Tr.e,RG,nG]
    all_goals first | (intro g;exact absurd g c0) | (intro _;exact⟨trivial,rfl,rfl⟩)
   refine VO T (gq T.us.length T.us:Nat) ((gq T.us.length T.us:Nat) - (gq T.kx.length T.ux:Nat)) _ ?_ ?_ ?_ ?_ ?_ ?_ ?_ ?_<;>dsimp only[Az,Rg,At,Tr.q,Tr.e,qP]
   ·intro g;rw[aP] at g;omega
   ·intro _ g;rw[fD] at g;omega
   ·intro _ _ g;exact absurd g nsz
   ·intro _ _ _ g;rw[aI] at g;exact absurd a1 g
   ·intro _ _ _ _ g;rw[aI] at g;exact absurd a2 g
   ·intro _ _ _ _ _ g;rw[aI] at g;exact absurd a3 g
   ·intro _ _ _ _ _ _ g;rw[aI] at g
    rw[hlq]
    exact⟨⟨hM,hL,hI,hus,trivial⟩,by rw[if_neg (by omega)]⟩
   ·intro _ _ _ _ _ _ g;rw[aQ] at g
    rw[hlq]
    exact⟨⟨hM,hL,hI,hus,trivial⟩,by rw[if_pos (by omega)]⟩
  ·intro j hj hp hr
   have n1:=aA hj
   have n2:=aA (n:=T.ks.length) (i:=j) (by omega)
   have n3:=aA (n:=T.x1.length) (i:=j) (by omega)
   have hk:eX (T.ks.getD (j:Int).toNat 0):=by rw[Int.toNat_natCast];exact hK j (by omega)
   have hb:gy (T.x4.getD (j:Int).toNat 0):=by rw[Int.toNat_natCast];exact hB j (by omega)
   have hu:∃ u:Int,Rn 53 0 (nC T 0 (gq j T.us:Nat) l.length T.us.length j l).abs .ret (nC T 8 u l.length T.us.length j l).abs:=by
    by_cases d1:(!(T.us.getD j false ==inB l j))=true
    ·refine⟨(gq j T.us:Nat),rV T 0 _ _ T.us.length j l _ _ ?_ ?_ ?_ ?_ ?_ ?_ ?_ ?_ ?_⟩
     ·intro _ _;exact⟨⟨rfl,hl,n1.1,n1.2,trivial⟩,rfl,rfl⟩
     all_goals first | (intro _ g;rw[Int.toNat_natCast,d1] at g;cases g) | (intro g;rw[aX] at g;omega)
    ·have d1':(!(T.us.getD j false ==inB l j))=false:=by simpa using d1
     simp only[qO,d1',Bool.false_or] at hp
     cases g1':T.us.getD j false with
     |false=>
      rw[g1',if_neg (by simp),Bool.or_eq_true,decide_eq_true_eq] at hp
      refine⟨(gq j T.us:Nat),rV T 0 _ _ T.us.length j l _ _ ?_ ?_ ?_ ?_ ?_ ?_ ?_ ?_ ?_⟩
      ·intro _ _;exact⟨⟨rfl,hl,n1.1,n1.2,trivial⟩,rfl,rfl⟩
      ·intro _ _ _ _;exact⟨⟨n2.1,n2.2,rfl,hl,n1.1,n1.2,trivial⟩,rfl,rfl⟩
      ·intro _ _ _ _ _;exact⟨⟨n3.1,n3.2,n2.1,n2.2,rfl,hl,n1.1,n1.2,trivial⟩,rfl,rfl⟩
      ·intro _ _ _ g2 g3
       rw[Int.toNat_natCast,aQ] at g2
       rw[z17] at g3
       rcases hp with hp | hp
       ·exact absurd g2 hp
       ·rw[hp] at g3;cases g3
      all_goals first | (intro _ _ g;rw[Int.toNat_natCast,g1'] at g;cases g) | (intro g;rw[aX] at g;omega)
     |true=>
      rw[g1',if_pos rfl,decide_eq_true_eq] at hp
      refine⟨ai .add .i64 (gq j T.us:Nat) 1,rV T 0 _ _ T.us.length j l _ _ ?_ ?_ ?_ ?_ ?_ ?_ ?_ ?_ ?_⟩
      ·intro _ g;rw[Int.toNat_natCast,d1'] at g;cases g
      ·intro _ _ g;rw[Int.toNat_natCast,g1'] at g;cases g
      ·intro _ _ g;rw[Int.toNat_natCast,g1'] at g;cases g
      ·intro _ _ g;rw[Int.toNat_natCast,g1'] at g;cases g
      ·intro _ _ _ _;exact⟨⟨⟨hI,hk⟩,n2.1,n2.2,rfl,hl,n1.1,n1.2,trivial⟩,rfl,rfl⟩
      ·intro _ _ _ _ _;exact⟨⟨⟨hI,hk⟩,n2.1,n2.2,rfl,hl,n1.1,n1.2,trivial⟩,rfl,rfl⟩
      ·intro _ _ _ _ _ _;exact⟨⟨hb,n3.1,n3.2,⟨hI,hk⟩,n2.1,n2.2,rfl,hl,n1.1,n1.2,trivial⟩,rfl,rfl⟩
      ·intro _ _ _ g1 g2 g3
       unfold O8 at g1;unfold Qx at g2;unfold Ov at g3
       rw[Int.toNat_natCast,aQ] at g1 g2 g3
       rcases hp with hp | hp | hp
       ·exact absurd g1 hp
       ·exact absurd g2 hp
       ·exact absurd g3 hp
      ·intro g;rw[aX] at g;omega
   obtain⟨u,hu⟩:=hu
   refine Jv T 8 u j _ ?_ ?_ ?_ ?_ ?_ ?_ ?_<;>dsimp only[Az,Rg,At,Tr.q,Tr.e,qM]
   ·intro g;rw[aP] at g;omega
   ·intro _ g;rw[fD] at g;omega
   ·intro _ _ g;exact absurd g nsz
   ·intro _ _ _ g;rw[aI] at g;exact absurd a1 g
   ·intro _ _ _ _ g;rw[aI] at g;exact absurd a2 g
   ·intro _ _ _ _ _ g;rw[aI] at g;exact absurd a3 g
   ·intro _ _ _ _ _ _
    rw[hlq]
    exact⟨⟨au (hr _ _ hu),hI,hus,trivial⟩,by rw[if_neg (by omega)]⟩
 ·rw[if_neg c]
  refine Jv T 8 0 0 _ ?_ ?_ ?_ ?_ ?_ ?_ ?_<;>dsimp only[Az,Rg,At,Tr.q,Tr.e,qM]
  ·intro _;exact⟨trivial,rfl⟩
  ·intro _ _;exact⟨trivial,rfl⟩
  ·intro _ _ _;exact⟨trivial,rfl⟩
  ·intro _ _ _ _;exact⟨⟨hus,trivial⟩,rfl⟩
  ·intro _ _ _ _ _;exact⟨⟨hI,hus,trivial⟩,rfl⟩
  ·intro _ _ _ _ _ _;exact⟨⟨hI,hus,trivial⟩,rfl⟩
  ·intro g1 g2 g3 g4 g5 g6
   rw[aX] at g1;rw[iD] at g2;rw[sz4] at g3;rw[aQ] at g4 g5 g6
   exact absurd ⟨⟨by omega,by omega,g3⟩,g4,g5,g6⟩ c
def Yu (T:Tb) (i:Int):=T.x2.getD i.toNat 0 ==0 && (T.x3.getD i.toNat 0 ==0 && true)
def YG (T:Tb) (i:Int):=T.x5.getD i.toNat 0 ==0 && (T.x6.getD i.toNat 0 ==0 && true)
def QE (T:Tb) (i:Int):=!T.us.getD i.toNat false ==ah .eql (↑(KZ T.kx.length T.px T.ux i)) 1
def GX (T:Tb) (i:Int):=T.x1.getD i.toNat 0 ==0 && (Yu T i) && (T.x4.getD i.toNat 0 ==0 && (YG T i))
def PN (T:Tb) (i:Int):=qA (T.x1.getD i.toNat 0) (T.x2.getD i.toNat 0) (T.x3.getD i.toNat 0) (T.x4.getD i.toNat 0) (T.x5.getD i.toNat 0)
def jU (T:Tb) (o:Int) (m:Nat) (i:Int) (l:List Int):Tr (Ex×Cs):= .e (ah .lss i T.n) (.s (decide (i<(T.ks.length:Int))=true) (.s (decide (0≤i)=true) (.s (T.kx.length≤200) (.s (decide (i<(T.us.length:Int))=true) (.s (decide (0≤i)=true) (.s (l.length≤200) (.s (m=l.length) (.e (!T.us.getD i.toNat false ==inB l i) (.p (.c 10) (.lf (Ex.ret,(kU T (8) (m) (i) (l))))) (.p (.c 7) (.s (decide (i<(T.us.length:Int))=true) (.s (decide (0≤i)=true) (.e (QE T i) (.p (.c 1) (.lf (Ex.ret,(kU T (8) (m) (i) (l))))) (.p (.c 0) (.e (!Zn T.kx.length T.kx T.px T.ux i (T.ks.getD i.toNat 0)) (.lf (Ex.ret,(kU T (8) (m) (i) (l)))) (.s (decide (i<(T.us.length:Int))=true) (.s (decide (0≤i)=true) (.e (T.us.getD i.toNat false) (.p (.c 5) (.s (decide (i<(T.x1.length:Int))=true) (.s (decide (0≤i)=true) (.e (ah .neq (PN T i) 0) (.lf (Ex.ret,(kU T (8) (m) (i) (l)))) (.s (decide (i<(T.us.length:Int))=true) (.s (decide (0≤i)=true) (.e (!T.us.getD i.toNat false) (.p (.c 5) (.s (decide (i<(T.ks.length:Int))=true) (.s (decide (0≤i)=true) (.e (ah .neq (T.ks.getD i.toNat 0) 0) (.p (.c 7) (.lf (Ex.ret,(kU T (8) (m) (i) (l))))) (.p (.c 6) (.s (decide (i<(T.x1.length:Int))=true) (.s (decide (0≤i)=true) (.e (!(GX T i)) (.lf (Ex.ret,(kU T (8) (m) (i) (l)))) (.lf (Ex.normal,(kU T (o) (m) (ai .add .i64 i 1) (l)))))))))))) (.p (.c 7) (.lf (Ex.normal,(kU T (o) (m) (ai .add .i64 i 1) (l)))))))))))) (.p (.c 6) (.s (decide (i<(T.us.length:Int))=true) (.s (decide (0≤i)=true) (.e (!T.us.getD i.toNat false) (.p (.c 5) (.s (decide (i<(T.ks.length:Int))=true) (.s (decide (0≤i)=true) (.e (ah .neq (T.ks.getD i.toNat 0) 0) (.p (.c 7) (.lf (Ex.ret,(kU T (8) (m) (i) (l))))) (.p (.c 6) (.s (decide (i<(T.x1.length:Int))=true) (.s (decide (0≤i)=true) (.e (!(GX T i)) (.lf (Ex.ret,(kU T (8) (m) (i) (l)))) (.lf (Ex.normal,(kU T (o) (m) (ai .add .i64 i 1) (l)))))))))))) (.p (.c 7) (.lf (Ex.normal,(kU T (o) (m) (ai .add .i64 i 1) (l)))))))))))))))))))))))))) (.lf (Ex.exit 0,(kU T (o) (m) (i) (l))))
theorem Df (T:Tb) (o:Int) (m:Nat) (i:Int) (l:List Int) (σ:St) (e:Ex) (h0:Rg 55 0 e σ (jU T o m i l) [true,true]) (h1:Rg 55 0 e σ (jU T o m i l) [true,false,true]) (h2:Rg 55 0 e σ (jU T o m i l) [true,false,false,true]) (h3:Rg 55 0 e σ (jU T o m i l) [true,false,false,false,true,true]) (h4:Rg 55 0 e σ (jU T o m i l) [true,false,false,false,true,false,true,true]) (h5:Rg 55 0 e σ (jU T o m i l) [true,false,false,false,true,false,true,false,true]) (h6:Rg 55 0 e σ (jU T o m i l) [true,false,false,false,true,false,true,false,false]) (h7:Rg 55 0 e σ (jU T o m i l) [true,false,false,false,true,false,false]) (h8:Rg 55 0 e σ (jU T o m i l) [true,false,false,false,false,true,true]) (h9:Rg 55 0 e σ (jU T o m i l) [true,false,false,false,false,true,false,true]) (h10:Rg 55 0 e σ (jU T o m i l) [true,false,false,false,false,true,false,false]) (h11:Rg 55 0 e σ (jU T o m i l) [true,false,false,false,false,false]) (h12:Rg 55 0 e σ (jU T o m i l) [false]):Rn 55 0 (kU T o m i l).abs e σ:=qH (SE) [[1,2,3,5]] [(32,32),(2208,2208)] (jU T o m i l) ⟨fun e0=>⟨h0 e0,fun e1=>⟨h1 e0 e1,fun e2=>⟨h2 e0 e1 e2,fun e3=>⟨fun e4=>⟨h3 e0 e1 e2 e3 e4,fun e5=>⟨fun e6=>⟨h4 e0 e1 e2 e3 e4 e5 e6,fun e7=>⟨h5 e0 e1 e2 e3 e4 e5 e6 e7,h6 e0 e1 e2 e3 e4 e5 e6 e7⟩⟩,h7 e0 e1 e2 e3 e4 e5⟩⟩,fun e4=>⟨fun e5=>⟨h8 e0 e1 e2 e3 e4 e5,fun e6=>⟨h9 e0 e1 e2 e3 e4 e5 e6,h10 e0 e1 e2 e3 e4 e5 e6⟩⟩,h11 e0 e1 e2 e3 e4⟩⟩⟩⟩⟩,h12⟩
def Qu (T:Tb):=ah .neq ↑(gq T.kx.length T.ux) ↑((bM T.no T.h).length)
def lX (T:Tb) (i:Int):Tr D:= .e (ah .lss T.n 1) (.p (.c 28) (.lf (i64 8))) (.p (.c 1) (.e (ah .gtr T.n 8) (.p (.c 25) (.lf (i64 8))) (.p (.c 4) (.e (ah .neq ((T.ks.length:Int)) T.n) (.p (.c 19) (.lf (i64 8))) (.p (.c 4) (.e (ah .neq ((T.x1.length:Int)) T.n) (.p (.c 13) (.lf (i64 8))) (.p (.c 5) (.e (ah .neq ((T.nx.length:Int)) T.n) (.p (.c 6) (.lf (i64 8))) (.p (.c 5) (.e (ah .neq ((T.ps.length:Int)) T.n) (.lf (i64 8)) (.s (T.nx.length≤200) (.e (ah .neq (ku T.nx T.us T.fr) 0) (.p (.c 7) (.lf (i64 8))) (.p (.c 2) (.s (okI T.kx) (.e (ah .neq (lY T.kx T.px T.ux) 0) (.p (.c 3) (.lf (i64 8))) (.p (.c 2) (.s (T.no.length≤200) (.e (ah .neq (lJ T.ps T.no T.h T.t) 0) (.lf (i64 8)) (.s (T.no.length≤200) (.s (T.kx.length≤200) (.e (Qu T) (.lf (i64 8)) (.p (.l [[1,2,3,5]] [(32,32),(2208,2208)] (kU T 0 ((bM T.no T.h).length) 0 (bM T.no T.h)) (Ex.exit 0) (kU T 0 ((bM T.no T.h).length) i (bM T.no T.h))) (.s (Rl 55 0 (kU T 0 ((bM T.no T.h).length) 0 (bM T.no T.h)).abs (Ex.exit 0) (kU T 0 ((bM T.no T.h).length) i (bM T.no T.h)).abs) (.k ((kU T 0 ((bM T.no T.h).length) 0 (bM T.no T.h)=kU T 0 ((bM T.no T.h).length) 0 (bM T.no T.h))) rfl (.lf (i64 0))))))))))))))))))))))))))
theorem V3 (T:Tb) (i:Int) (res:D) (h0:Az res (lX T i) [true]) (h1:Az res (lX T i) [false,true]) (h2:Az res (lX T i) [false,false,true]) (h3:Az res (lX T i) [false,false,false,true]) (h4:Az res (lX T i) [false,false,false,false,true]) (h5:Az res (lX T i) [false,false,false,false,false,true]) (h6:Az res (lX T i) [false,false,false,false,false,false,true]) (h7:Az res (lX T i) [false,false,false,false,false,false,false,true]) (h8:Az res (lX T i) [false,false,false,false,false,false,false,false,true]) (h9:Az res (lX T i) [false,false,false,false,false,false,false,false,false,true]) (h10:Az res (lX T i) [false,false,false,false,false,false,false,false,false,false]):Kl 55 [T.d] res:=fA (SE) (lX T i) ⟨h0,fun e0=>⟨h1 e0,fun e1=>⟨h2 e0 e1,fun e2=>⟨h3 e0 e1 e2,fun e3=>⟨h4 e0 e1 e2 e3,fun e4=>⟨h5 e0 e1 e2 e3 e4,fun e5=>⟨h6 e0 e1 e2 e3 e4 e5,fun e6=>⟨h7 e0 e1 e2 e3 e4 e5 e6,fun e7=>⟨h8 e0 e1 e2 e3 e4 e5 e6 e7,fun e8=>⟨h9 e0 e1 e2 e3 e4 e5 e6 e7 e8,h10 e0 e1 e2 e3 e4 e5 e6 e7 e8⟩⟩⟩⟩⟩⟩⟩⟩⟩⟩
def Gm (T:Tb):=ah .neq ↑(gq T.kx.length T.ux) ↑((bM T.no T.h).length)
def kY (T:Tb) (o i:Int):Tr D:= .e (ah .lss T.n 1) (.p (.c 28) (.lf (i64 8))) (.p (.c 1) (.e (ah .gtr T.n 8) (.p (.c 25) (.lf (i64 8))) (.p (.c 4) (.e (ah .neq ((T.ks.length:Int)) T.n) (.p (.c 19) (.lf (i64 8))) (.p (.c 4) (.e (ah .neq ((T.x1.length:Int)) T.n) (.p (.c 13) (.lf (i64 8))) (.p (.c 5) (.e (ah .neq ((T.nx.length:Int)) T.n) (.p (.c 6) (.lf (i64 8))) (.p (.c 5) (.e (ah .neq ((T.ps.length:Int)) T.n) (.lf (i64 8)) (.s (T.nx.length≤200) (.e (ah .neq (ku T.nx T.us T.fr) 0) (.p (.c 7) (.lf (i64 8))) (.p (.c 2) (.s (okI T.kx) (.e (ah .neq (lY T.kx T.px T.ux) 0) (.p (.c 3) (.lf (i64 8))) (.p (.c 2) (.s (T.no.length≤200) (.e (ah .neq (lJ T.ps T.no T.h T.t) 0) (.lf (i64 8)) (.s (T.no.length≤200) (.s (T.kx.length≤200) (.e (Gm T) (.lf (i64 8)) (.p (.l [[1,2,3,5]] [(32,32),(2208,2208)] (kU T 0 ((bM T.no T.h).length) 0 (bM T.no T.h)) Ex.ret (kU T o ((bM T.no T.h).length) i (bM T.no T.h))) (.s (Rl 55 0 (kU T 0 ((bM T.no T.h).length) 0 (bM T.no T.h)).abs (Ex.ret) (kU T o ((bM T.no T.h).length) i (bM T.no T.h)).abs) (.k ((kU T 0 ((bM T.no T.h).length) 0 (bM T.no T.h)=kU T 0 ((bM T.no T.h).length) 0 (bM T.no T.h))) rfl (.lf (i64 o))))))))))))))))))))))))))
theorem IW (T:Tb) (o i:Int) (res:D) (h0:Az res (kY T o i) [true]) (h1:Az res (kY T o i) [false,true]) (h2:Az res (kY T o i) [false,false,true]) (h3:Az res (kY T o i) [false,false,false,true]) (h4:Az res (kY T o i) [false,false,false,false,true]) (h5:Az res (kY T o i) [false,false,false,false,false,true]) (h6:Az res (kY T o i) [false,false,false,false,false,false,true]) (h7:Az res (kY T o i) [false,false,false,false,false,false,false,true]) (h8:Az res (kY T o i) [false,false,false,false,false,false,false,false,true]) (h9:Az res (kY T o i) [false,false,false,false,false,false,false,false,false,true]) (h10:Az res (kY T o i) [false,false,false,false,false,false,false,false,false,false]):Kl 55 [T.d] res:=fA (SE) (kY T o i) ⟨h0,fun e0=>⟨h1 e0,fun e1=>⟨h2 e0 e1,fun e2=>⟨h3 e0 e1 e2,fun e3=>⟨h4 e0 e1 e2 e3,fun e4=>⟨h5 e0 e1 e2 e3 e4,fun e5=>⟨h6 e0 e1 e2 e3 e4 e5,fun e6=>⟨h7 e0 e1 e2 e3 e4 e5 e6,fun e7=>⟨h8 e0 e1 e2 e3 e4 e5 e6 e7,fun e8=>⟨h9 e0 e1 e2 e3 e4 e5 e6 e7 e8,h10 e0 e1 e2 e3 e4 e5 e6 e7 e8⟩⟩⟩⟩⟩⟩⟩⟩⟩⟩
def zI (T:Tb):Tr D:= .e (ah .gtr ((T.ks.length:Int)) 100) (.p (.c 12) (.lf (bo true))) (.p (.c 2) (.e (ah .gtr ((T.x1.length:Int)) 100) (.p (.c 8) (.lf (bo true))) (.p (.c 2) (.e (ah .gtr ((T.kx.length:Int)) 100) (.p (.c 4) (.lf (bo true))) (.p (.c 1) (.e (gr2 T.nx.length T.us.length) (.p (.c 1) (.lf (bo true))) (.p (.c 1) (.lf (bo (gr2 T.ps.length T.no.length))))))))))
theorem VN (T:Tb) (res:D) (h0:Az res (zI T) [true]) (h1:Az res (zI T) [false,true]) (h2:Az res (zI T) [false,false,true]) (h3:Az res (zI T) [false,false,false,true]) (h4:Az res (zI T) [false,false,false,false]):Kl 34 [T.d] res:=fA (SE) (zI T) ⟨h0,fun e0=>⟨h1 e0,fun e1=>⟨h2 e0 e1,fun e2=>⟨h3 e0 e1 e2,h4 e0 e1 e2⟩⟩⟩⟩
theorem z18 (T:Tb) (i:Nat):GX T (i:Int)=z6 T i:=by
 unfold GX Yu YG z6;simp only[Int.toNat_natCast,Bool.and_true,Bool.and_assoc]
theorem c18 (T:Tb) (i:Nat):QE T (i:Int)=!(T.us.getD i false ==decide (KZ T.kx.length T.px T.ux i=1)):=by
 have:ah .eql (((KZ T.kx.length T.px T.ux i:Nat):Int)) 1=decide (KZ T.kx.length T.px T.ux i=1):=by
  rw[Bool.eq_iff_iff,bY,decide_eq_true_eq];omega
 unfold QE;rw[this,Int.toNat_natCast]
def qJ (T:Tb) (l:List Int) (i:Nat):Bool:=
 (!(T.us.getD i false ==inB l i)) || ((!(T.us.getD i false ==decide (KZ T.kx.length T.px T.ux i=1))) || ((!Zn T.kx.length T.kx T.px T.ux i (T.ks.getD i 0)) || (if T.us.getD i false=true then decide (bk6 T i≠0) else decide (T.ks.getD i 0≠0) || !z6 T i)))
def xB (T:Tb):Int:=
 if T.sz∧ku T.nx T.us T.fr=0∧lY T.kx T.px T.ux=0∧lJ T.ps T.no T.h T.t=0∧gq T.kx.length T.ux=(bM T.no T.h).length then
  (if iW (qJ T (bM T.no T.h)) T.n.toNat 0<0 then 0 else 8) else 8
theorem adk {nx:List Int} {us:List Bool} {f:Int} (h:ku nx us f=0):us.length=nx.length:=by
 unfold ku at h;split at h
 next c=>exact c.2.2.1
 next=>cases h
theorem agp {ps nx:List Int} {h t:Int} (e:lJ ps nx h t=0):KU nx h=true:=by
 unfold lJ at e;split at e
 next c=>exact c.2.2.2.1
 next=>cases e
theorem aoM (T:Tb) (h:fZ T):Kl 55 [T.d] (i64 (xB T)):=by
 unfold xB
 obtain⟨hI,hK,hB,hnx,hus,hno,_⟩:=h
 have hkl:=hI.1
 by_cases c:T.sz∧ku T.nx T.us T.fr=0∧lY T.kx T.px T.ux=0∧lJ T.ps T.no T.h T.t=0∧gq T.kx.length T.ux=(bM T.no T.h).length
 ·rw[if_pos c]
  obtain⟨⟨s1,s2,s3,s4,s5,s6⟩,a1,a2,a3,a4⟩:=c
  have hun:=adk a1
  have hl:(bM T.no T.h).length≤200:=by
   have:=jE (xU (agp a3));omega
  have a4':Qu T=false:=by unfold Qu;rw[aQ];omega
  have a4'':Gm T=false:=by unfold Gm;rw[aQ];omega
  generalize hlq:bM T.no T.h=l at *
  obtain⟨n,hn⟩:=Int.eq_ofNat_of_zero_le (by omega:0≤T.n)
  have hnn:T.n.toNat=n:=by omega
  rw[hnn]
  refine gV (b:=dh Pg 55 0) (fun i=>kU T 0 l.length (i:Int) l) n (qJ T l) (fun v=>Kl 55 [T.d] (i64 (if v<0 then 0 else 8))) ?_ ?_ ?_
  ·intro i hi hp σ e hr
   have n1:=aA (n:=T.us.length) (i:=i) (by omega)
   have n2:=aA (n:=T.ks.length) (i:=i) (by omega)
   have n3:=aA (n:=T.x1.length) (i:=i) (by omega)
   simp only[qJ,Bool.or_eq_false_iff] at hp
   obtain⟨p1,p2,p3,p4⟩:=hp
   have sc:=dW (n:=n) hi (by omega)
   refine Df T 0 _ i l σ e ?_ ?_ ?_ ?_ ?_ ?_ ?_ ?_ ?_ ?_ ?_ ?_ ?_<;>dsimp only[Az,Rg,At,Tr.q,Tr.e,RG,jU]
   ·intro _ g;rw[Int.toNat_natCast,p1] at g;cases g
   ·intro _ _ g;rw[c18,p2] at g;cases g
   ·intro _ _ _ g;rw[Int.toNat_natCast,p3] at g;cases g
   all_goals try (intro _ _ _ _ g1;rw[Int.toNat_natCast] at g1)
   all_goals try (rw[g1] at p4)
   ·intro g2;unfold PN at g2;rw[Int.toNat_natCast,aI] at g2
    rw[if_pos rfl,decide_eq_false_iff_not] at p4;exact absurd g2 p4
   ·intro _ g2;rw[Int.toNat_natCast,g1] at g2;cases g2
   ·intro _ g2;rw[Int.toNat_natCast,g1] at g2;cases g2
   ·intro _ g2;rw[Int.toNat_natCast,g1] at g2;cases g2
   ·intro _ _;rw[sc]
    exact⟨⟨n1.1,n1.2,n3.1,n3.2,n1.1,n1.2,n1.1,n1.2,rfl,hl,n1.1,n1.2,hkl,n2.1,n2.2,trivial⟩,hr⟩
   ·intro _ g2;rw[Int.toNat_natCast,aI] at g2
    rw[if_neg (by simp),Bool.or_eq_false_iff,decide_eq_false_iff_not] at p4;exact absurd g2 p4.1
   ·intro _ _ g2;rw[z18] at g2
    rw[if_neg (by simp),Bool.or_eq_false_iff,g2] at p4;cases p4.2
   ·intro _ _ _;rw[sc]
    exact⟨⟨n3.1,n3.2,n2.1,n2.2,n1.1,n1.2,n1.1,n1.2,n1.1,n1.2,rfl,hl,n1.1,n1.2,hkl,n2.1,n2.2,trivial⟩,hr⟩
   ·intro g2;rw[Int.toNat_natCast,g1] at g2;cases g2
   ·intro g;rw[aX] at g;omega
  ·intro hr
   have c0:¬ ah .lss ((n:Nat):Int) T.n=true:=by rw[aP];omega
   have hL:=au (hr _ _ (Df T 0 l.length n l (kU T 0 l.length n l).abs (.exit 0) (fun g=>absurd g c0) (fun g=>absurd g c0) (fun g=>absurd g c0) (fun g=>absurd g c0) (fun g=>absurd g c0) (fun g=>absurd g c0) (fun g=>absurd g c0) (fun g=>absurd g c0) (fun g=>absurd g c0) (fun g=>absurd g c0) (fun g=>absurd g c0) (fun g=>absurd g c0) (fun _=>⟨trivial,rfl,rfl⟩)))
   refine V3 T n _ ?_ ?_ ?_ ?_ ?_ ?_ ?_ ?_ ?_ ?_ ?_<;>dsimp only[Az,Rg,At,Tr.q,Tr.e,lX]
   ·intro g;rw[aP] at g;omega
   ·intro _ g;rw[fD] at g;omega
   ·intro _ _ g;rw[aI] at g;omega
   ·intro _ _ _ g;rw[aI] at g;omega
   ·intro _ _ _ _ g;rw[aI] at g;omega
   ·intro _ _ _ _ _ g;rw[aI] at g;omega
   ·intro _ _ _ _ _ _ g;rw[aI] at g;exact absurd a1 g
   ·intro _ _ _ _ _ _ _ g;rw[aI] at g;exact absurd a2 g
   ·intro _ _ _ _ _ _ _ _ g;rw[aI] at g;exact absurd a3 g
   ·intro _ _ _ _ _ _ _ _ _ g;rw[a4'] at g;cases g
   ·intro _ _ _ _ _ _ _ _ _ _
    rw[hlq]
    exact⟨⟨hL,hkl,hno,hno,hI,hnx,trivial⟩,rfl⟩
  ·intro j hj hp hr
   have n1:=aA (n:=T.us.length) (i:=j) (by omega)
   have n2:=aA (n:=T.ks.length) (i:=j) (by omega)
   have n3:=aA (n:=T.x1.length) (i:=j) (by omega)
   have hu:Rn 55 0 (kU T 0 l.length j l).abs .ret (kU T 8 l.length j l).abs:=by
    refine Df T 0 _ j l _ _ ?_ ?_ ?_ ?_ ?_ ?_ ?_ ?_ ?_ ?_ ?_ ?_ ?_<;>dsimp only[Az,Rg,At,Tr.q,Tr.e,RG,jU]
    ·intro _ _;exact⟨⟨rfl,hl,n1.1,n1.2,hkl,n2.1,n2.2,trivial⟩,rfl,rfl⟩
    ·intro _ _ _;exact⟨⟨n1.1,n1.2,rfl,hl,n1.1,n1.2,hkl,n2.1,n2.2,trivial⟩,rfl,rfl⟩
    ·intro _ _ _ _;exact⟨⟨n1.1,n1.2,rfl,hl,n1.1,n1.2,hkl,n2.1,n2.2,trivial⟩,rfl,rfl⟩
    ·intro _ _ _ _ _ _;exact⟨⟨n3.1,n3.2,n1.1,n1.2,n1.1,n1.2,rfl,hl,n1.1,n1.2,hkl,n2.1,n2.2,trivial⟩,rfl,rfl⟩
    ·intro _ _ _ _ g1 _ g2;rw[g1] at g2;cases g2
    ·intro _ _ _ _ g1 _ g2;rw[g1] at g2;cases g2
    ·intro _ _ _ _ g1 _ g2;rw[g1] at g2;cases g2
    ·intro _ d1 d2 d3 g1 g2 _
     rw[Int.toNat_natCast] at d1 d3 g1
     rw[c18] at d2
     unfold PN at g2;rw[Int.toNat_natCast,aQ] at g2
     unfold qJ at hp;rw[d1,d2,d3,Bool.false_or,Bool.false_or,Bool.false_or,if_pos g1,decide_eq_true_eq] at hp
     exact absurd g2 hp
    ·intro _ _ _ _ _ _ _;exact⟨⟨n2.1,n2.2,n1.1,n1.2,n1.1,n1.2,n1.1,n1.2,rfl,hl,n1.1,n1.2,hkl,n2.1,n2.2,trivial⟩,rfl,rfl⟩
    ·intro _ _ _ _ _ _ _ _;exact⟨⟨n3.1,n3.2,n2.1,n2.2,n1.1,n1.2,n1.1,n1.2,n1.1,n1.2,rfl,hl,n1.1,n1.2,hkl,n2.1,n2.2,trivial⟩,rfl,rfl⟩
    ·intro _ d1 d2 d3 g1 _ g2 g3
     rw[Int.toNat_natCast] at d1 d3 g1 g2
     rw[c18] at d2
     rw[aQ] at g2;rw[z18] at g3
     have g3':z6 T j=true:=by simpa using g3
     unfold qJ at hp;rw[d1,d2,d3,Bool.false_or,Bool.false_or,Bool.false_or,if_neg (by rw[g1];simp),g3',Bool.not_true,Bool.or_false,decide_eq_true_eq] at hp
     exact absurd g2 hp
    ·intro _ _ _ _ g1 g2;rw[g1] at g2;cases g2
    ·intro g;rw[aX] at g;omega
   refine IW T 8 j _ ?_ ?_ ?_ ?_ ?_ ?_ ?_ ?_ ?_ ?_ ?_<;>dsimp only[Az,Rg,At,Tr.q,Tr.e,kY]
   ·intro g;rw[aP] at g;omega
   ·intro _ g;rw[fD] at g;omega
   ·intro _ _ g;rw[aI] at g;omega
   ·intro _ _ _ g;rw[aI] at g;omega
   ·intro _ _ _ _ g;rw[aI] at g;omega
   ·intro _ _ _ _ _ g;rw[aI] at g;omega
   ·intro _ _ _ _ _ _ g;rw[aI] at g;exact absurd a1 g
   ·intro _ _ _ _ _ _ _ g;rw[aI] at g;exact absurd a2 g
   ·intro _ _ _ _ _ _ _ _ g;rw[aI] at g;exact absurd a3 g
   ·intro _ _ _ _ _ _ _ _ _ g;rw[a4''] at g;cases g
   ·intro _ _ _ _ _ _ _ _ _ _
    rw[hlq]
    exact⟨⟨au (hr _ _ hu),hkl,hno,hno,hI,hnx,trivial⟩,by rw[if_neg (by omega)]⟩
 ·rw[if_neg c]
  refine IW T 8 0 _ ?_ ?_ ?_ ?_ ?_ ?_ ?_ ?_ ?_ ?_ ?_<;>dsimp only[Az,Rg,At,Tr.q,Tr.e,kY]
  ·intro _;exact⟨trivial,rfl⟩
  ·intro _ _;exact⟨trivial,rfl⟩
  ·intro _ _ _;exact⟨trivial,rfl⟩
  ·intro _ _ _ _;exact⟨trivial,rfl⟩
  ·intro _ _ _ _ _;exact⟨trivial,rfl⟩
  ·intro _ _ _ _ _ _;exact⟨trivial,rfl⟩
  ·intro _ _ _ _ _ _ _;exact⟨⟨hnx,trivial⟩,rfl⟩
  ·intro _ _ _ _ _ _ _ _;exact⟨⟨hI,hnx,trivial⟩,rfl⟩
  ·intro _ _ _ _ _ _ _ _ _;exact⟨⟨hno,hI,hnx,trivial⟩,rfl⟩
  ·intro _ _ _ _ _ _ _ _ _ _;exact⟨⟨hkl,hno,hno,hI,hnx,trivial⟩,rfl⟩
  ·intro g1 g2 g3 g4 g5 g6 g7 g8 g9 g10
   unfold Gm at g10
   rw[aX] at g1;rw[iD] at g2;rw[aQ] at g3 g4 g5 g6 g7 g8 g9 g10
   exact absurd ⟨⟨by omega,by omega,g3,g4,g5,g6⟩,g7,g8,g9,by omega⟩ c
def Tb.great (T:Tb):Bool:=decide (100<T.ks.length) || (decide (100<T.x1.length) || (decide (100<T.kx.length) || (gr2 T.nx.length T.us.length || gr2 T.ps.length T.no.length)))
theorem ai3 (T:Tb):Kl 34 [T.d] (bo T.great):=by
 unfold Tb.great
 refine VN T _ ?_ ?_ ?_ ?_ ?_<;>dsimp only[Az,Rg,At,Tr.q,Tr.e,zI]
 ·intro g;rw[nZ] at g;exact⟨trivial,by rw[g];rfl⟩
 ·intro g1 g;rw[nZ] at g1 g;exact⟨trivial,by rw[g1,g];rfl⟩
 ·intro g1 g2 g;rw[nZ] at g1 g2 g;exact⟨trivial,by rw[g1,g2,g];rfl⟩
 ·intro g1 g2 g3 g;rw[nZ] at g1 g2 g3;exact⟨trivial,by rw[g1,g2,g3,g];rfl⟩
 ·intro g1 g2 g3 g;rw[nZ] at g1 g2 g3;exact⟨trivial,by rw[g1,g2,g3,g];rfl⟩
def tcC:List D→Option (D×List Prop)
 |[.agg [.v (.int .i64 n), .rc [.ints .u32 ks], .rc [.ints .i64 x1, .ints .i64 x2, .ints .i64 x3, .ints .i64 x4, .ints .i64 x5, .ints .u64 x6], .rc [.ints .i64 nx], .rc [.bools us], .v (.int .i64 fr), .rc [.ints .u32 kx, .ints .i64 px, .bools ux], .rc [.ints .i64 ps], .rc [.ints .i64 no], .v (.int .i64 h), .v (.int .i64 t)]]=>some (i64 (jL ⟨n,ks,x1,x2,x3,x4,x5,x6,nx,us,fr,kx,px,ux,ps,no,h,t⟩),[fZ ⟨n,ks,x1,x2,x3,x4,x5,x6,nx,us,fr,kx,px,ux,ps,no,h,t⟩])
 |_=>none
def rcC:List D→Option (D×List Prop)
 |[.agg [.v (.int .i64 n), .rc [.ints .u32 ks], .rc [.ints .i64 x1, .ints .i64 x2, .ints .i64 x3, .ints .i64 x4, .ints .i64 x5, .ints .u64 x6], .rc [.ints .i64 nx], .rc [.bools us], .v (.int .i64 fr), .rc [.ints .u32 kx, .ints .i64 px, .bools ux], .rc [.ints .i64 ps], .rc [.ints .i64 no], .v (.int .i64 h), .v (.int .i64 t)]]=>some (i64 (xB ⟨n,ks,x1,x2,x3,x4,x5,x6,nx,us,fr,kx,px,ux,ps,no,h,t⟩),[fZ ⟨n,ks,x1,x2,x3,x4,x5,x6,nx,us,fr,kx,px,ux,ps,no,h,t⟩])
 |_=>none
theorem alP (args res l) (h:tcC args=some (res,l)) (hl:aJ l):Kl 53 args res:=by
 unfold tcC at h;split at h
 ·obtain⟨rfl,rfl⟩:=dB h
  exact aoX _ hl.1
 ·cases h
theorem amw (args res l) (h:rcC args=some (res,l)) (hl:aJ l):Kl 55 args res:=by
 unfold rcC at h;split at h
 ·obtain⟨rfl,rfl⟩:=dB h
  exact aoM _ hl.1
 ·cases h
def grC:List D→Option (D×List Prop)
 |[.agg [.v (.int .i64 n), .rc [.ints .u32 ks], .rc [.ints .i64 x1, .ints .i64 x2, .ints .i64 x3, .ints .i64 x4, .ints .i64 x5, .ints .u64 x6], .rc [.ints .i64 nx], .rc [.bools us], .v (.int .i64 fr), .rc [.ints .u32 kx, .ints .i64 px, .bools ux], .rc [.ints .i64 ps], .rc [.ints .i64 no], .v (.int .i64 h), .v (.int .i64 t)]]=>some (bo (Tb.great ⟨n,ks,x1,x2,x3,x4,x5,x6,nx,us,fr,kx,px,ux,ps,no,h,t⟩),[])
 |_=>none
theorem aku (args res l) (h:grC args=some (res,l)) (hl:aJ l):Kl 34 args res:=by
 unfold grC at h;split at h
 ·obtain⟨rfl,rfl⟩:=dB h
  exact ai3 ⟨_,_,_,_,_,_,_,_,_,_,_,_,_,_,_,_,_,_⟩
 ·cases h
def X10:aB:=aF 53 (.call tcC) (aF 55 (.call rcC) (aF 34 (.call grC) X9))
theorem acB:bT Pg X10:=aj alP (aj amw (aj aku SE))
def XP1:aB:=aF 37 (.call vaC) (aF 27 (.call vaC) (aF 135 (.call xiC) X10))
theorem zN:bT Pg XP1:=aj adu (aj acT (aj aee acB))
def pO:Code→List (Array Tmp×Code×Code)
 | .seq a b=>pO a ++ pO b
 | .cond _ a b=>pO a ++ pO b
 | .block _ a=>pO a
 | .loop a=>pO a
 | .rangeFunc _ ps a b=>[(ps,a,b)]
 |_=>[]
def ckL (k:Nat):kV:=match l9 Pg 15 with
 |some (_,c)=>match (pO c)[k]? with
  |some (ps,a,b)=>{ ps:=ps,assign:=a,body:=b,depth:=2,state:= .ready }
  |none=>{ ps:=#[],assign:= .skip,body:= .skip,depth:=0,state:= .ready }
 |none=>{ ps:=#[],assign:= .skip,body:= .skip,depth:=0,state:= .ready }
def ckT (st:Af) (k:Nat) (Q:Pt) (T:Tb) (e c1 c2 c3 d1 d2 d3 i:Int):Cs:=⟨TT.of [(0, .yld),(1,D.ptr 131104 0),(7,rb T.us),(8,i64 T.us.length),(9,i64 i)],32,[(TT.of [(1,D.ptr 32 0),(2,D.ptr 64 0),(3,D.ptr 96 0)],104),(TT.of [],1)],
 [(32,Q.b),(64,BX.cells [i64 e] false),(96,BX.cells [i64 Q.ob,i64 Q.orr,i64 Q.op,i64 c1,i64 c2,i64 c3,i64 d1,i64 d2,i64 d3] false),(131104,T.b)],some { ckL k with state:=st },0⟩
def vO (Q:Pt) (e c1 c2 c3 i:Int):Cs:=ckT .ready 0 Q Q.U e c1 c2 c3 Q.b2 Q.r2 Q.p2 i
def Ah (Q:Pt) (e c1 c2 c3 d1 d2 d3 i:Int):Cs:=ckT .ready 1 Q Q.E e c1 c2 c3 d1 d2 d3 i
def FT (Q:Pt) (e i:Int):Cs:=⟨TT.of [(1,D.ptr 32 0),(2,D.ptr 64 0),(84,ru Q.rv),(85,i64 Q.rv.length),(86,i64 i)],104,[],[(32,Q.b),(64,BX.cells [i64 e] false)],none,0⟩
theorem alr (Q:Pt) (er c1 c2 c3 i:Int):gY Pg (XP1) 100000 (dh Pg 104 0) [.d true, .d true, .c 11, .d false, .c 1] [[0,1,7,8,9],[1,2,3],[]] [(32,32),(64,64),(96,96),(131104,131104)] (vO Q er c1 c2 c3 i)=some (Ex.normal,(vO Q (er) (Q.U.x1.getD i.toNat 0) (Q.U.x2.getD i.toNat 0) (Q.U.x3.getD i.toNat 0) (ai .add .i64 i 1)),[(!(Q.ob ==Q.b0 && (Q.orr ==Q.r0 && (Q.op ==Q.p0 && true)) && (Q.U.x1.getD i.toNat 0 ==Q.b1 && (Q.U.x2.getD i.toNat 0 ==Q.r1 && (Q.U.x3.getD i.toNat 0 ==Q.p1 && true)) && (Q.b2 ==Q.b2 && (Q.r2 ==Q.r2 && (Q.p2 ==Q.p2 && true)) && true))))=false,decide (0≤i)=true,decide (i< ↑(Q.U.x1.length))=true,decide (0≤i)=true,decide (i< ↑(Q.U.ks.length))=true,Q.U.us.getD i.toNat false=true,decide (0≤i)=true,decide (i< ↑(Q.U.us.length))=true,ah .lss i ↑Q.U.us.length=true]):=by kernel_rfl
theorem amA (Q:Pt) (er c1 c2 c3 i:Int):gY Pg (XP1) 100000 (dh Pg 104 0) [.d true, .d true, .c 11, .d true, .c 1] [[0,1,7,8,9],[1,2,3],[]] [(32,32),(64,64),(96,96),(131104,131104)] (vO Q er c1 c2 c3 i)=some (Ex.ret,(ckT (Af.done Code.ret) 0 Q Q.U (8) (Q.U.x1.getD i.toNat 0) (Q.U.x2.getD i.toNat 0) (Q.U.x3.getD i.toNat 0) (Q.b2) (Q.r2) (Q.p2) (i)),[(!(Q.ob ==Q.b0 && (Q.orr ==Q.r0 && (Q.op ==Q.p0 && true)) && (Q.U.x1.getD i.toNat 0 ==Q.b1 && (Q.U.x2.getD i.toNat 0 ==Q.r1 && (Q.U.x3.getD i.toNat 0 ==Q.p1 && true)) && (Q.b2 ==Q.b2 && (Q.r2 ==Q.r2 && (Q.p2 ==Q.p2 && true)) && true))))=true,decide (0≤i)=true,decide (i< ↑(Q.U.x1.length))=true,decide (0≤i)=true,decide (i< ↑(Q.U.ks.length))=true,Q.U.us.getD i.toNat false=true,decide (0≤i)=true,decide (i< ↑(Q.U.us.length))=true,ah .lss i ↑Q.U.us.length=true]):=by kernel_rfl
theorem akm (Q:Pt) (er c1 c2 c3 i:Int):gY Pg (XP1) 100000 (dh Pg 104 0) [.d true, .d false, .c 13] [[0,1,7,8,9],[1,2,3],[]] [(32,32),(64,64),(96,96),(131104,131104)] (vO Q er c1 c2 c3 i)=some (Ex.normal,(vO Q (er) (c1) (c2) (c3) (ai .add .i64 i 1)),[Q.U.us.getD i.toNat false=false,decide (0≤i)=true,decide (i< ↑(Q.U.us.length))=true,ah .lss i ↑Q.U.us.length=true]):=by kernel_rfl
theorem akE (Q:Pt) (er c1 c2 c3 i:Int):gY Pg (XP1) 100000 (dh Pg 104 0) [.d false] [[0,1,7,8,9],[1,2,3],[]] [(32,32),(64,64),(96,96),(131104,131104)] (vO Q er c1 c2 c3 i)=some (Ex.exit 0,(vO Q (er) (c1) (c2) (c3) (i)),[ah .lss i ↑Q.U.us.length=false]):=by kernel_rfl
theorem aki (Q:Pt) (er c1 c2 c3 d1 d2 d3 i:Int):gY Pg (XP1) 100000 (dh Pg 104 0) [.d true, .d true, .c 11, .d false, .c 0, .d false, .c 1] [[0,1,7,8,9],[1,2,3],[]] [(32,32),(64,64),(96,96),(131104,131104)] (Ah Q er c1 c2 c3 d1 d2 d3 i)=some (Ex.normal,(Ah Q (er) (c1) (c2) (c3) (Q.E.x1.getD i.toNat 0) (Q.E.x2.getD i.toNat 0) (Q.E.x3.getD i.toNat 0) (ai .add .i64 i 1)),[ah .gtr (Q.E.ks.getD i.toNat 0) 65535=false,(!(Q.ob ==Q.b0 && (Q.orr ==Q.r0 && (Q.op ==Q.p0 && true)) && (c1 ==Q.b1 && (c2 ==Q.r1 && (c3 ==Q.p1 && true)) && (Q.E.x1.getD i.toNat 0 ==Q.b2 && (Q.E.x2.getD i.toNat 0 ==Q.r2 && (Q.E.x3.getD i.toNat 0 ==Q.p2 && true)) && true))))=false,decide (0≤i)=true,decide (i< ↑(Q.E.x1.length))=true,decide (0≤i)=true,decide (i< ↑(Q.E.ks.length))=true,Q.E.us.getD i.toNat false=true,decide (0≤i)=true,decide (i< ↑(Q.E.us.length))=true,ah .lss i ↑Q.E.us.length=true]):=by kernel_rfl
theorem al9 (Q:Pt) (er c1 c2 c3 d1 d2 d3 i:Int):gY Pg (XP1) 100000 (dh Pg 104 0) [.d true, .d true, .c 11, .d true, .c 3] [[0,1,7,8,9],[1,2,3],[]] [(32,32),(64,64),(96,96),(131104,131104)] (Ah Q er c1 c2 c3 d1 d2 d3 i)=some (Ex.ret,(ckT (Af.done Code.ret) 1 Q Q.E (8) (c1) (c2) (c3) (Q.E.x1.getD i.toNat 0) (Q.E.x2.getD i.toNat 0) (Q.E.x3.getD i.toNat 0) (i)),[(!(Q.ob ==Q.b0 && (Q.orr ==Q.r0 && (Q.op ==Q.p0 && true)) && (c1 ==Q.b1 && (c2 ==Q.r1 && (c3 ==Q.p1 && true)) && (Q.E.x1.getD i.toNat 0 ==Q.b2 && (Q.E.x2.getD i.toNat 0 ==Q.r2 && (Q.E.x3.getD i.toNat 0 ==Q.p2 && true)) && true))))=true,decide (0≤i)=true,decide (i< ↑(Q.E.x1.length))=true,decide (0≤i)=true,decide (i< ↑(Q.E.ks.length))=true,Q.E.us.getD i.toNat false=true,decide (0≤i)=true,decide (i< ↑(Q.E.us.length))=true,ah .lss i ↑Q.E.us.length=true]):=by kernel_rfl
theorem alX (Q:Pt) (er c1 c2 c3 d1 d2 d3 i:Int):gY Pg (XP1) 100000 (dh Pg 104 0) [.d true, .d false, .c 13] [[0,1,7,8,9],[1,2,3],[]] [(32,32),(64,64),(96,96),(131104,131104)] (Ah Q er c1 c2 c3 d1 d2 d3 i)=some (Ex.normal,(Ah Q (er) (c1) (c2) (c3) (d1) (d2) (d3) (ai .add .i64 i 1)),[Q.E.us.getD i.toNat false=false,decide (0≤i)=true,decide (i< ↑(Q.E.us.length))=true,ah .lss i ↑Q.E.us.length=true]):=by kernel_rfl
theorem ajZ (Q:Pt) (er c1 c2 c3 d1 d2 d3 i:Int):gY Pg (XP1) 100000 (dh Pg 104 0) [.d false] [[0,1,7,8,9],[1,2,3],[]] [(32,32),(64,64),(96,96),(131104,131104)] (Ah Q er c1 c2 c3 d1 d2 d3 i)=some (Ex.exit 0,(Ah Q (er) (c1) (c2) (c3) (d1) (d2) (d3) (i)),[ah .lss i ↑Q.E.us.length=false]):=by kernel_rfl
theorem al3 (Q:Pt) (er c1 c2 c3 d1 d2 d3 i:Int):gY Pg (XP1) 100000 (dh Pg 104 0) [.d true, .d true, .c 11, .d false, .c 0, .d true, .c 1] [[0,1,7,8,9],[1,2,3],[]] [(32,32),(64,64),(96,96),(131104,131104)] (Ah Q er c1 c2 c3 d1 d2 d3 i)=some (Ex.ret,(ckT (Af.done Code.ret) 1 Q Q.E (8) (c1) (c2) (c3) (Q.E.x1.getD i.toNat 0) (Q.E.x2.getD i.toNat 0) (Q.E.x3.getD i.toNat 0) (i)),[ah .gtr (Q.E.ks.getD i.toNat 0) 65535=true,(!(Q.ob ==Q.b0 && (Q.orr ==Q.r0 && (Q.op ==Q.p0 && true)) && (c1 ==Q.b1 && (c2 ==Q.r1 && (c3 ==Q.p1 && true)) && (Q.E.x1.getD i.toNat 0 ==Q.b2 && (Q.E.x2.getD i.toNat 0 ==Q.r2 && (Q.E.x3.getD i.toNat 0 ==Q.p2 && true)) && true))))=false,decide (0≤i)=true,decide (i< ↑(Q.E.x1.length))=true,decide (0≤i)=true,decide (i< ↑(Q.E.ks.length))=true,Q.E.us.getD i.toNat false=true,decide (0≤i)=true,decide (i< ↑(Q.E.us.length))=true,ah .lss i ↑Q.E.us.length=true]):=by kernel_rfl
def O0 (Q:Pt) (i:Int):=ah .geq (Q.rv.getD (ai .sub .i64 i 1).toNat 0) (Q.rv.getD i.toNat 0)
def Jk (Q:Pt) (er i:Int):Tr (Ex×Cs):= .e (ah .lss i ↑Q.rv.length) (.s (decide (i< ↑(Q.rv.length))=true) (.s (decide (0≤i)=true) (.e (ah .gtr i 0) (.p (.c 6) (.s (decide (ai .sub .i64 i 1< ↑(Q.rv.length))=true) (.s (decide (0≤ai .sub .i64 i 1)=true) (.e (O0 Q i) (.lf (Ex.ret,(FT Q (8) (i)))) (.lf (Ex.normal,(FT Q (er) (ai .add .i64 i 1)))))))) (.p (.c 7) (.lf (Ex.normal,(FT Q (er) (ai .add .i64 i 1)))))))) (.lf (Ex.exit 4,(FT Q (er) (i))))
theorem Ic (Q:Pt) (er i:Int) (σ:St) (e:Ex) (h0:Rg 15 0 e σ (Jk Q er i) [true,true,true]) (h1:Rg 15 0 e σ (Jk Q er i) [true,true,false]) (h2:Rg 15 0 e σ (Jk Q er i) [true,false]) (h3:Rg 15 0 e σ (Jk Q er i) [false]):Rn 15 0 (FT Q er i).abs e σ:=qH (zN) [[1,2,84,85,86]] [(32,32),(64,64)] (Jk Q er i) ⟨fun e0=>⟨fun e1=>⟨h0 e0 e1,h1 e0 e1⟩,h2 e0⟩,h3⟩
def acn (Q:Pt) (c1 c2 c3 i:Int):=ckT (Af.done Code.ret) 0 Q Q.U 8 c1 c2 c3 Q.b2 Q.r2 Q.p2 i
def EO (Q:Pt) (c1 c2 c3 i:Int):Tr D:= .e (ah .geq Q.te 16) (.p (.c 15) (.lf (i64 8))) (.p (.c 2) (.e (!nV Q.b0 Q.r0 Q.p0 Q.b1 Q.r1 Q.p1 Q.b2 Q.r2 Q.p2) (.p (.c 11) (.lf (i64 8))) (.p (.c 2) (.s (gy Q.ov) (.e (ah .neq (qA Q.ob Q.orr Q.op Q.ov Q.oq) 0) (.p (.c 7) (.lf (i64 8))) (.p (.c 2) (.s (fZ Q.U) (.e (ah .neq (jL Q.U) 0) (.p (.c 3) (.lf (i64 8))) (.p (.c 2) (.s (fZ Q.E) (.e (ah .neq (jL Q.E) 0) (.lf (i64 8)) (.p (.l [[0,1,7,8,9],[1,2,3],[]] [(32,32),(64,64),(96,96),(131104,131104)] (vO Q 0 Q.b1 Q.r1 Q.p1 0) Ex.ret (acn Q c1 c2 c3 i)) (.s (Rl 104 0 (vO Q 0 Q.b1 Q.r1 Q.p1 0).abs (Ex.ret) (acn Q c1 c2 c3 i).abs) (.k ((vO Q 0 Q.b1 Q.r1 Q.p1 0=vO Q 0 Q.b1 Q.r1 Q.p1 0)) rfl (.lf (i64 8))))))))))))))))
theorem ZV (Q:Pt) (c1 c2 c3 i:Int) (res:D) (h0:Az res (EO Q c1 c2 c3 i) [true]) (h1:Az res (EO Q c1 c2 c3 i) [false,true]) (h2:Az res (EO Q c1 c2 c3 i) [false,false,true]) (h3:Az res (EO Q c1 c2 c3 i) [false,false,false,true]) (h4:Az res (EO Q c1 c2 c3 i) [false,false,false,false,true]) (h5:Az res (EO Q c1 c2 c3 i) [false,false,false,false,false]):Kl 15 [Q.d] res:=fA (zN) (EO Q c1 c2 c3 i) ⟨h0,fun e0=>⟨h1 e0,fun e1=>⟨h2 e0 e1,fun e2=>⟨h3 e0 e1 e2,fun e3=>⟨h4 e0 e1 e2 e3,h5 e0 e1 e2 e3⟩⟩⟩⟩⟩
def FI (Q:Pt) (c1 c2 c3 d1 d2 d3 i k:Int):Tr D:= .e (ah .geq Q.te 16) (.p (.c 15) (.lf (i64 8))) (.p (.c 2) (.e (!nV Q.b0 Q.r0 Q.p0 Q.b1 Q.r1 Q.p1 Q.b2 Q.r2 Q.p2) (.p (.c 11) (.lf (i64 8))) (.p (.c 2) (.s (gy Q.ov) (.e (ah .neq (qA Q.ob Q.orr Q.op Q.ov Q.oq) 0) (.p (.c 7) (.lf (i64 8))) (.p (.c 2) (.s (fZ Q.U) (.e (ah .neq (jL Q.U) 0) (.p (.c 3) (.lf (i64 8))) (.p (.c 2) (.s (fZ Q.E) (.e (ah .neq (jL Q.E) 0) (.lf (i64 8)) (.p (.l [[0,1,7,8,9],[1,2,3],[]] [(32,32),(64,64),(96,96),(131104,131104)] (vO Q 0 Q.b1 Q.r1 Q.p1 0) (Ex.exit 0) (vO Q 0 c1 c2 c3 i)) (.p (.l [[0,1,7,8,9],[1,2,3],[]] [(32,32),(64,64),(96,96),(131104,131104)] (Ah Q 0 c1 c2 c3 Q.b2 Q.r2 Q.p2 0) Ex.ret (ckT (Af.done Code.ret) 1 Q Q.E 8 c1 c2 c3 d1 d2 d3 k)) (.s (Rl 104 0 (vO Q 0 Q.b1 Q.r1 Q.p1 0).abs (Ex.exit 0) (vO Q 0 c1 c2 c3 i).abs) (.k ((vO Q 0 Q.b1 Q.r1 Q.p1 0=vO Q 0 Q.b1 Q.r1 Q.p1 0)) rfl (.s (Rl 104 0 (Ah Q 0 c1 c2 c3 Q.b2 Q.r2 Q.p2 0).abs (Ex.ret) (ckT (Af.done Code.ret) 1 Q Q.E 8 c1 c2 c3 d1 d2 d3 k).abs) (.k ((Ah Q 0 c1 c2 c3 Q.b2 Q.r2 Q.p2 0=Ah Q 0 c1 c2 c3 Q.b2 Q.r2 Q.p2 0)) rfl (.lf (i64 8)))))))))))))))))))
theorem aap (Q:Pt) (c1 c2 c3 d1 d2 d3 i k:Int) (res:D) (h0:Az res (FI Q c1 c2 c3 d1 d2 d3 i k) [true]) (h1:Az res (FI Q c1 c2 c3 d1 d2 d3 i k) [false,true]) (h2:Az res (FI Q c1 c2 c3 d1 d2 d3 i k) [false,false,true]) (h3:Az res (FI Q c1 c2 c3 d1 d2 d3 i k) [false,false,false,true]) (h4:Az res (FI Q c1 c2 c3 d1 d2 d3 i k) [false,false,false,false,true]) (h5:Az res (FI Q c1 c2 c3 d1 d2 d3 i k) [false,false,false,false,false]):Kl 15 [Q.d] res:=fA (zN) (FI Q c1 c2 c3 d1 d2 d3 i k) ⟨h0,fun e0=>⟨h1 e0,fun e1=>⟨h2 e0 e1,fun e2=>⟨h3 e0 e1 e2,fun e3=>⟨h4 e0 e1 e2 e3,h5 e0 e1 e2 e3⟩⟩⟩⟩⟩
def amZ (Q:Pt) (d1 d2 d3:Int):=d1 ==Q.b2 && (d2 ==Q.r2 && (d3 ==Q.p2 && true)) && true
def ame (Q:Pt) (c1 c2 c3 d1 d2 d3:Int):=c1 ==Q.b1 && (c2 ==Q.r1 && (c3 ==Q.p1 && true)) && (amZ Q d1 d2 d3)
def aeZ (Q:Pt) (c1 c2 c3 d1 d2 d3:Int):=Q.ob ==Q.b0 && (Q.orr ==Q.r0 && (Q.op ==Q.p0 && true)) && (ame Q c1 c2 c3 d1 d2 d3)
def ad3 (Q:Pt) (c1 c2 c3 i:Int):=Rl 104 0 (vO Q 0 Q.b1 Q.r1 Q.p1 0).abs (Ex.exit 0) (vO Q 0 c1 c2 c3 i).abs
def afA (Q:Pt) (c1 c2 c3 d1 d2 d3 k:Int):=Rl 104 0 (Ah Q 0 c1 c2 c3 Q.b2 Q.r2 Q.p2 0).abs (Ex.exit 0) (Ah Q 0 c1 c2 c3 d1 d2 d3 k).abs
def mX (Q:Pt) (c1 c2 c3 d1 d2 d3 i k j:Int):Tr D:= .e (ah .geq Q.te 16) (.p (.c 15) (.lf (i64 8))) (.p (.c 2) (.e (!nV Q.b0 Q.r0 Q.p0 Q.b1 Q.r1 Q.p1 Q.b2 Q.r2 Q.p2) (.p (.c 11) (.lf (i64 8))) (.p (.c 2) (.s (gy Q.ov) (.e (ah .neq (qA Q.ob Q.orr Q.op Q.ov Q.oq) 0) (.p (.c 7) (.lf (i64 8))) (.p (.c 2) (.s (fZ Q.U) (.e (ah .neq (jL Q.U) 0) (.p (.c 3) (.lf (i64 8))) (.p (.c 2) (.s (fZ Q.E) (.e (ah .neq (jL Q.E) 0) (.lf (i64 8)) (.p (.l [[0,1,7,8,9],[1,2,3],[]] [(32,32),(64,64),(96,96),(131104,131104)] (vO Q 0 Q.b1 Q.r1 Q.p1 0) (Ex.exit 0) (vO Q 0 c1 c2 c3 i)) (.p (.l [[0,1,7,8,9],[1,2,3],[]] [(32,32),(64,64),(96,96),(131104,131104)] (Ah Q 0 c1 c2 c3 Q.b2 Q.r2 Q.p2 0) (Ex.exit 0) (Ah Q 0 c1 c2 c3 d1 d2 d3 k)) (.s (ad3 Q c1 c2 c3 i) (.k ((vO Q 0 Q.b1 Q.r1 Q.p1 0=vO Q 0 Q.b1 Q.r1 Q.p1 0)) rfl (.s (afA Q c1 c2 c3 d1 d2 d3 k) (.k ((Ah Q 0 c1 c2 c3 Q.b2 Q.r2 Q.p2 0=Ah Q 0 c1 c2 c3 Q.b2 Q.r2 Q.p2 0)) rfl (.e (!(aeZ Q c1 c2 c3 d1 d2 d3)) (.p (.c 3) (.lf (i64 8))) (.p (.c 2) (.e (ah .gtr (↑(Q.rv.length)) 8) (.lf (i64 8)) (.p (.l [[1,2,84,85,86]] [(32,32),(64,64)] (FT Q 0 0) (Ex.exit 4) (FT Q 0 j)) (.s (Rl 15 0 (FT Q 0 0).abs (Ex.exit 4) (FT Q 0 j).abs) (.k ((FT Q 0 0=FT Q 0 0)) rfl (.lf (i64 0)))))))))))))))))))))))))
theorem kQ (Q:Pt) (c1 c2 c3 d1 d2 d3 i k j:Int) (res:D) (h0:Az res (mX Q c1 c2 c3 d1 d2 d3 i k j) [true]) (h1:Az res (mX Q c1 c2 c3 d1 d2 d3 i k j) [false,true]) (h2:Az res (mX Q c1 c2 c3 d1 d2 d3 i k j) [false,false,true]) (h3:Az res (mX Q c1 c2 c3 d1 d2 d3 i k j) [false,false,false,true]) (h4:Az res (mX Q c1 c2 c3 d1 d2 d3 i k j) [false,false,false,false,true]) (h5:Az res (mX Q c1 c2 c3 d1 d2 d3 i k j) [false,false,false,false,false,true]) (h6:Az res (mX Q c1 c2 c3 d1 d2 d3 i k j) [false,false,false,false,false,false,true]) (h7:Az res (mX Q c1 c2 c3 d1 d2 d3 i k j) [false,false,false,false,false,false,false]):Kl 15 [Q.d] res:=fA (zN) (mX Q c1 c2 c3 d1 d2 d3 i k j) ⟨h0,fun e0=>⟨h1 e0,fun e1=>⟨h2 e0 e1,fun e2=>⟨h3 e0 e1 e2,fun e3=>⟨h4 e0 e1 e2 e3,fun e4=>⟨h5 e0 e1 e2 e3 e4,fun e5=>⟨h6 e0 e1 e2 e3 e4 e5,h7 e0 e1 e2 e3 e4 e5⟩⟩⟩⟩⟩⟩⟩
def akP (Q:Pt) (d1 d2 d3:Int):=d1 ==Q.b2 && (d2 ==Q.r2 && (d3 ==Q.p2 && true)) && true
def amU (Q:Pt) (c1 c2 c3 d1 d2 d3:Int):=c1 ==Q.b1 && (c2 ==Q.r1 && (c3 ==Q.p1 && true)) && (akP Q d1 d2 d3)
def aep (Q:Pt) (c1 c2 c3 d1 d2 d3:Int):=Q.ob ==Q.b0 && (Q.orr ==Q.r0 && (Q.op ==Q.p0 && true)) && (amU Q c1 c2 c3 d1 d2 d3)
def acL (Q:Pt) (c1 c2 c3 i:Int):=Rl 104 0 (vO Q 0 Q.b1 Q.r1 Q.p1 0).abs (Ex.exit 0) (vO Q 0 c1 c2 c3 i).abs
def ae2 (Q:Pt) (c1 c2 c3 d1 d2 d3 k:Int):=Rl 104 0 (Ah Q 0 c1 c2 c3 Q.b2 Q.r2 Q.p2 0).abs (Ex.exit 0) (Ah Q 0 c1 c2 c3 d1 d2 d3 k).abs
def zf (Q:Pt) (c1 c2 c3 d1 d2 d3 i k j:Int):Tr D:= .e (ah .geq Q.te 16) (.p (.c 15) (.lf (i64 8))) (.p (.c 2) (.e (!nV Q.b0 Q.r0 Q.p0 Q.b1 Q.r1 Q.p1 Q.b2 Q.r2 Q.p2) (.p (.c 11) (.lf (i64 8))) (.p (.c 2) (.s (gy Q.ov) (.e (ah .neq (qA Q.ob Q.orr Q.op Q.ov Q.oq) 0) (.p (.c 7) (.lf (i64 8))) (.p (.c 2) (.s (fZ Q.U) (.e (ah .neq (jL Q.U) 0) (.p (.c 3) (.lf (i64 8))) (.p (.c 2) (.s (fZ Q.E) (.e (ah .neq (jL Q.E) 0) (.lf (i64 8)) (.p (.l [[0,1,7,8,9],[1,2,3],[]] [(32,32),(64,64),(96,96),(131104,131104)] (vO Q 0 Q.b1 Q.r1 Q.p1 0) (Ex.exit 0) (vO Q 0 c1 c2 c3 i)) (.p (.l [[0,1,7,8,9],[1,2,3],[]] [(32,32),(64,64),(96,96),(131104,131104)] (Ah Q 0 c1 c2 c3 Q.b2 Q.r2 Q.p2 0) (Ex.exit 0) (Ah Q 0 c1 c2 c3 d1 d2 d3 k)) (.s (acL Q c1 c2 c3 i) (.k ((vO Q 0 Q.b1 Q.r1 Q.p1 0=vO Q 0 Q.b1 Q.r1 Q.p1 0)) rfl (.s (ae2 Q c1 c2 c3 d1 d2 d3 k) (.k ((Ah Q 0 c1 c2 c3 Q.b2 Q.r2 Q.p2 0=Ah Q 0 c1 c2 c3 Q.b2 Q.r2 Q.p2 0)) rfl (.e (!(aep Q c1 c2 c3 d1 d2 d3)) (.p (.c 3) (.lf (i64 8))) (.p (.c 2) (.e (ah .gtr (↑(Q.rv.length)) 8) (.lf (i64 8)) (.p (.l [[1,2,84,85,86]] [(32,32),(64,64)] (FT Q 0 0) Ex.ret (FT Q 8 j)) (.s (Rl 15 0 (FT Q 0 0).abs (Ex.ret) (FT Q 8 j).abs) (.k ((FT Q 0 0=FT Q 0 0)) rfl (.lf (i64 8)))))))))))))))))))))))))
theorem abR (Q:Pt) (c1 c2 c3 d1 d2 d3 i k j:Int) (res:D) (h0:Az res (zf Q c1 c2 c3 d1 d2 d3 i k j) [true]) (h1:Az res (zf Q c1 c2 c3 d1 d2 d3 i k j) [false,true]) (h2:Az res (zf Q c1 c2 c3 d1 d2 d3 i k j) [false,false,true]) (h3:Az res (zf Q c1 c2 c3 d1 d2 d3 i k j) [false,false,false,true]) (h4:Az res (zf Q c1 c2 c3 d1 d2 d3 i k j) [false,false,false,false,true]) (h5:Az res (zf Q c1 c2 c3 d1 d2 d3 i k j) [false,false,false,false,false,true]) (h6:Az res (zf Q c1 c2 c3 d1 d2 d3 i k j) [false,false,false,false,false,false,true]) (h7:Az res (zf Q c1 c2 c3 d1 d2 d3 i k j) [false,false,false,false,false,false,false]):Kl 15 [Q.d] res:=fA (zN) (zf Q c1 c2 c3 d1 d2 d3 i k j) ⟨h0,fun e0=>⟨h1 e0,fun e1=>⟨h2 e0 e1,fun e2=>⟨h3 e0 e1 e2,fun e3=>⟨h4 e0 e1 e2 e3,fun e4=>⟨h5 e0 e1 e2 e3 e4,fun e5=>⟨h6 e0 e1 e2 e3 e4 e5,h7 e0 e1 e2 e3 e4 e5⟩⟩⟩⟩⟩⟩⟩
end TableS
end
