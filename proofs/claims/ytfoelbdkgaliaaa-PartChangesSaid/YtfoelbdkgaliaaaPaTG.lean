/- What the functions compute, and the law. No condition. -/
import Derived.Test.YtfoelbdkgaliaaaDamYA
import Derived.Test.YtfoelbdkgaliaaaProg
import Derived.KernelRfl
set_option linter.unusedSectionVars false
set_option linter.unusedVariables false
set_option linter.unusedSimpArgs false
section
namespace TableS
open Go Go.Dam Go.Proofs
set_option maxRecDepth 1000000
abbrev i64 (n:Int):D:= .v (.int .i64 n)
abbrev u64 (n:Int):D:= .v (.int .u64 n)
abbrev u32 (n:Int):D:= .v (.int .u32 n)
abbrev bo (b:Bool):D:= .v (.bool b)
abbrev ri (xs:List Int):D:= .rc [.ints .i64 xs]
abbrev ru (xs:List Int):D:= .rc [.ints .u32 xs]
abbrev rb (xs:List Bool):D:= .rc [.bools xs]
@[reducible] def G0:gB:=⟨fun _=>[],fun _=>false⟩
variable [gB]
def X0:aB:=Zb
theorem hX0:bG Try.prog X0:=Om
end TableS
end

section
namespace TableS
open Go Go.Dam Go.Proofs
set_option maxRecDepth 1000000
variable [gB]
end TableS
end

section
namespace TableS
open Go Go.Dam Go.Proofs
set_option maxRecDepth 1000000
section
variable [gB]
noncomputable def YU (cp:Nat):Tr D:= .p (.c 0) (.lf (D.v (Value.slice none 0 0)))
theorem afC (cp:Nat):Leaves (fun l=>cu Try.prog (X0) 100000 l 70 [D.v (Value.slice none 0 cp)]) (YU cp) [] []:=by show _=_;kernel_rfl
theorem Qj (cp:Nat) (res:D) (h0:At (fun r=>res=r) (YU cp) [] True):CallsD Try.prog 70 [D.v (Value.slice none 0 cp)] res:=au (hX0) (afC cp) h0
noncomputable def SS (cp:Nat):Tr D:= .p (.c 0) (.lf (D.v (Value.slice none 0 0)))
theorem ab2 (cp:Nat):Leaves (fun l=>cu Try.prog (X0) 100000 l 69 [D.v (Value.slice none 0 cp)]) (SS cp) [] []:=by show _=_;kernel_rfl
theorem MK (cp:Nat) (res:D) (h0:At (fun r=>res=r) (SS cp) [] True):CallsD Try.prog 69 [D.v (Value.slice none 0 cp)] res:=au (hX0) (ab2 cp) h0
noncomputable def TQ (cp:Nat):Tr D:= .p (.c 0) (.lf (D.v (Value.slice none 0 0)))
theorem abe (cp:Nat):Leaves (fun l=>cu Try.prog (X0) 100000 l 19 [D.v (Value.slice none 0 cp)]) (TQ cp) [] []:=by show _=_;kernel_rfl
theorem MB (cp:Nat) (res:D) (h0:At (fun r=>res=r) (TQ cp) [] True):CallsD Try.prog 19 [D.v (Value.slice none 0 cp)] res:=au (hX0) (abe cp) h0
noncomputable def TG (cp:Nat):Tr D:= .p (.c 0) (.lf (D.v (Value.slice none 0 0)))
theorem aaQ (cp:Nat):Leaves (fun l=>cu Try.prog (X0) 100000 l 68 [D.v (Value.slice none 0 cp)]) (TG cp) [] []:=by show _=_;kernel_rfl
theorem Oq (cp:Nat) (res:D) (h0:At (fun r=>res=r) (TG cp) [] True):CallsD Try.prog 68 [D.v (Value.slice none 0 cp)] res:=au (hX0) (aaQ cp) h0
noncomputable def RS (cp:Nat):Tr D:= .p (.c 0) (.lf (D.v (Value.slice none 0 0)))
theorem abZ (cp:Nat):Leaves (fun l=>cu Try.prog (X0) 100000 l 71 [D.v (Value.slice none 0 cp)]) (RS cp) [] []:=by show _=_;kernel_rfl
theorem Md (cp:Nat) (res:D) (h0:At (fun r=>res=r) (RS cp) [] True):CallsD Try.prog 71 [D.v (Value.slice none 0 cp)] res:=au (hX0) (abZ cp) h0
end
section
attribute [local instance] GL
noncomputable def YK (ys:List Bool):Tr D:= .p (.c 0) (.s ((aH.bools ys).len=ah [.bools ys]) (.s (ah [.bools ys]*1≤17592186044416) (.q (ah [.bools ys]) (.lf (D.oc [.bools ys])))))
theorem aed (ys:List Bool):Leaves (fun l=>cu Try.prog (X0) 100000 l 70 [rb ys]) (YK ys) [] []:=by show _=_;kernel_rfl
theorem Qo (ys:List Bool) (res:D) (h0:At (fun r=>res=r) (YK ys) [] True):CallsD Try.prog 70 [rb ys] res:=au (hX0) (aed ys) h0
noncomputable def Xq (xs:List Int):Tr D:= .p (.c 0) (.s ((aH.ints .i64 xs).len=ah [.ints .i64 xs]) (.s (ah [.ints .i64 xs]*8≤17592186044416) (.q (ah [.ints .i64 xs]) (.lf (D.oc [.ints .i64 xs])))))
theorem afI (xs:List Int):Leaves (fun l=>cu Try.prog (X0) 100000 l 69 [ri xs]) (Xq xs) [] []:=by show _=_;kernel_rfl
theorem QV (xs:List Int) (res:D) (h0:At (fun r=>res=r) (Xq xs) [] True):CallsD Try.prog 69 [ri xs] res:=au (hX0) (afI xs) h0
noncomputable def WM (xs:List Int):Tr D:= .p (.c 0) (.s ((aH.ints .u32 xs).len=ah [.ints .u32 xs]) (.s (ah [.ints .u32 xs]*4≤17592186044416) (.q (ah [.ints .u32 xs]) (.lf (D.oc [.ints .u32 xs])))))
theorem aeM (xs:List Int):Leaves (fun l=>cu Try.prog (X0) 100000 l 19 [ru xs]) (WM xs) [] []:=by show _=_;kernel_rfl
theorem Pz (xs:List Int) (res:D) (h0:At (fun r=>res=r) (WM xs) [] True):CallsD Try.prog 19 [ru xs] res:=au (hX0) (aeM xs) h0
noncomputable def Xl (x1:List Int) (x2:List Int) (x3:List Int) (x4:List Int) (x5:List Int) (x6:List Int):Tr D:= .p (.c 0) (.s ((aH.ints .u64 x6).len=ah [.ints .i64 x1, .ints .i64 x2, .ints .i64 x3, .ints .i64 x4, .ints .i64 x5, .ints .u64 x6]) (.s ((aH.ints .i64 x5).len=ah [.ints .i64 x1, .ints .i64 x2, .ints .i64 x3, .ints .i64 x4, .ints .i64 x5, .ints .u64 x6]) (.s ((aH.ints .i64 x4).len=ah [.ints .i64 x1, .ints .i64 x2, .ints .i64 x3, .ints .i64 x4, .ints .i64 x5, .ints .u64 x6]) (.s ((aH.ints .i64 x3).len=ah [.ints .i64 x1, .ints .i64 x2, .ints .i64 x3, .ints .i64 x4, .ints .i64 x5, .ints .u64 x6]) (.s ((aH.ints .i64 x2).len=ah [.ints .i64 x1, .ints .i64 x2, .ints .i64 x3, .ints .i64 x4, .ints .i64 x5, .ints .u64 x6]) (.s ((aH.ints .i64 x1).len=ah [.ints .i64 x1, .ints .i64 x2, .ints .i64 x3, .ints .i64 x4, .ints .i64 x5, .ints .u64 x6]) (.s (ah [.ints .i64 x1, .ints .i64 x2, .ints .i64 x3, .ints .i64 x4, .ints .i64 x5, .ints .u64 x6]*48≤17592186044416) (.q (ah [.ints .i64 x1, .ints .i64 x2, .ints .i64 x3, .ints .i64 x4, .ints .i64 x5, .ints .u64 x6]) (.lf (D.oc [.ints .i64 x1, .ints .i64 x2, .ints .i64 x3, .ints .i64 x4, .ints .i64 x5, .ints .u64 x6]))))))))))
theorem adw (x1 x2 x3 x4 x5 x6:List Int):Leaves (fun l=>cu Try.prog (X0) 100000 l 68 [D.rc [Col.ints .i64 x1,Col.ints .i64 x2,Col.ints .i64 x3,Col.ints .i64 x4,Col.ints .i64 x5,Col.ints .u64 x6]]) (Xl x1 x2 x3 x4 x5 x6) [] []:=by show _=_;kernel_rfl
theorem QO (x1 x2 x3 x4 x5 x6:List Int) (res:D) (h0:At (fun r=>res=r) (Xl x1 x2 x3 x4 x5 x6) [] True):CallsD Try.prog 68 [D.rc [Col.ints .i64 x1,Col.ints .i64 x2,Col.ints .i64 x3,Col.ints .i64 x4,Col.ints .i64 x5,Col.ints .u64 x6]] res:=au (hX0) (adw x1 x2 x3 x4 x5 x6) h0
noncomputable def Ya (xs:List Int) (ys:List Int) (zs:List Bool):Tr D:= .p (.c 0) (.s ((aH.bools zs).len=ah [.ints .u32 xs, .ints .i64 ys, .bools zs]) (.s ((aH.ints .i64 ys).len=ah [.ints .u32 xs, .ints .i64 ys, .bools zs]) (.s ((aH.ints .u32 xs).len=ah [.ints .u32 xs, .ints .i64 ys, .bools zs]) (.s (ah [.ints .u32 xs, .ints .i64 ys, .bools zs]*24≤17592186044416) (.q (ah [.ints .u32 xs, .ints .i64 ys, .bools zs]) (.lf (D.oc [.ints .u32 xs, .ints .i64 ys, .bools zs])))))))
theorem ae3 (xs ys:List Int) (zs:List Bool):Leaves (fun l=>cu Try.prog (X0) 100000 l 71 [D.rc [Col.ints .u32 xs,Col.ints .i64 ys,Col.bools zs]]) (Ya xs ys zs) [] []:=by show _=_;kernel_rfl
theorem QL (xs ys:List Int) (zs:List Bool) (res:D) (h0:At (fun r=>res=r) (Ya xs ys zs) [] True):CallsD Try.prog 71 [D.rc [Col.ints .u32 xs,Col.ints .i64 ys,Col.bools zs]] res:=au (hX0) (ae3 xs ys zs) h0
end
attribute [instance] G0
abbrev kc (x1 x2 x3 x4 x5 x6:List Int):D:= .rc [.ints .i64 x1, .ints .i64 x2, .ints .i64 x3, .ints .i64 x4, .ints .i64 x5, .ints .u64 x6]
abbrev cc (xs ys:List Int) (zs:List Bool):D:= .rc [.ints .u32 xs, .ints .i64 ys, .bools zs]
abbrev oi (xs:List Int):D:= .oc [.ints .i64 xs]
abbrev ou (xs:List Int):D:= .oc [.ints .u32 xs]
abbrev ob (xs:List Bool):D:= .oc [.bools xs]
abbrev kco (x1 x2 x3 x4 x5 x6:List Int):D:= .oc [.ints .i64 x1, .ints .i64 x2, .ints .i64 x3, .ints .i64 x4, .ints .i64 x5, .ints .u64 x6]
abbrev cco (xs ys:List Int) (zs:List Bool):D:= .oc [.ints .u32 xs, .ints .i64 ys, .bools zs]
theorem af5 (ys:List Bool) (h:ys.length≤200):CallsD Try.prog 70 [rb ys] (ob ys):=
 lX (cols:=[.bools ys]) (fun cp=>Qj cp _ ⟨trivial,rfl⟩) (@Qo ys _ ⟨⟨by simp only[ah,aH.len];omega,rfl,trivial⟩,rfl⟩)
theorem aes (ys:List Int) (h:ys.length≤200):CallsD Try.prog 69 [ri ys] (oi ys):=
 lX (cols:=[.ints .i64 ys]) (fun cp=>MK cp _ ⟨trivial,rfl⟩) (@QV ys _ ⟨⟨by simp only[ah,aH.len];omega,rfl,trivial⟩,rfl⟩)
theorem afL (ys:List Int) (h:ys.length≤200):CallsD Try.prog 19 [ru ys] (ou ys):=
 lX (cols:=[.ints .u32 ys]) (fun cp=>MB cp _ ⟨trivial,rfl⟩) (@Pz ys _ ⟨⟨by simp only[ah,aH.len];omega,rfl,trivial⟩,rfl⟩)
def kcS (x1 x2 x3 x4 x5 x6:List Int):Prop:=x1.length≤200∧x2.length=x1.length∧x3.length=x1.length∧x4.length=x1.length∧x5.length=x1.length∧x6.length=x1.length
def ccS (xs ys:List Int) (zs:List Bool):Prop:=xs.length≤200∧ys.length=xs.length∧zs.length=xs.length
theorem af9 (x1 x2 x3 x4 x5 x6:List Int) (h:kcS x1 x2 x3 x4 x5 x6):CallsD Try.prog 68 [kc x1 x2 x3 x4 x5 x6] (kco x1 x2 x3 x4 x5 x6):=by
 obtain⟨h1,h2,h3,h4,h5,h6⟩:=h
 exact lX (cols:=[.ints .i64 x1, .ints .i64 x2, .ints .i64 x3, .ints .i64 x4, .ints .i64 x5, .ints .u64 x6]) (fun cp=>Oq cp _ ⟨trivial,rfl⟩) (@QO x1 x2 x3 x4 x5 x6 _ ⟨⟨by simp only[ah,aH.len];omega,rfl,h2,h3,h4,h5,h6,trivial⟩,rfl⟩)
theorem afT (xs ys:List Int) (zs:List Bool) (h:ccS xs ys zs):CallsD Try.prog 71 [cc xs ys zs] (cco xs ys zs):=by
 obtain⟨h1,h2,h3⟩:=h
 exact lX (cols:=[.ints .u32 xs, .ints .i64 ys, .bools zs]) (fun cp=>Md cp _ ⟨trivial,rfl⟩) (@QL xs ys zs _ ⟨⟨by simp only[ah,aH.len];omega,rfl,h2,h3,trivial⟩,rfl⟩)
def adA:List D→Option (D×List Prop)
 |[.rc [.bools ys]]=>some (ob ys,[ys.length≤200])
 |_=>none
theorem abE (args res l) (h:adA args=some (res,l)) (hl:aI l):CallsD Try.prog 70 args res:=by
 unfold adA at h;split at h
 ·simp only[Option.some.injEq,Prod.mk.injEq] at h
  obtain⟨rfl,rfl⟩:=h;obtain⟨h0,_⟩:=hl
  exact af5 _ h0
 ·cases h
def aeY:List D→Option (D×List Prop)
 |[.rc [.ints .i64 ys]]=>some (oi ys,[ys.length≤200])
 |_=>none
theorem abj (args res l) (h:aeY args=some (res,l)) (hl:aI l):CallsD Try.prog 69 args res:=by
 unfold aeY at h;split at h
 ·simp only[Option.some.injEq,Prod.mk.injEq] at h
  obtain⟨rfl,rfl⟩:=h;obtain⟨h0,_⟩:=hl
  exact aes _ h0
 ·cases h
def afq:List D→Option (D×List Prop)
 |[.rc [.ints .u32 ys]]=>some (ou ys,[ys.length≤200])
 |_=>none
theorem abv (args res l) (h:afq args=some (res,l)) (hl:aI l):CallsD Try.prog 19 args res:=by
 unfold afq at h;split at h
 ·simp only[Option.some.injEq,Prod.mk.injEq] at h
  obtain⟨rfl,rfl⟩:=h;obtain⟨h0,_⟩:=hl
  exact afL _ h0
 ·cases h
def agc:List D→Option (D×List Prop)
 |[.rc [.ints .i64 x1, .ints .i64 x2, .ints .i64 x3, .ints .i64 x4, .ints .i64 x5, .ints .u64 x6]]=>some (kco x1 x2 x3 x4 x5 x6,[kcS x1 x2 x3 x4 x5 x6])
 |_=>none
theorem aam (args res l) (h:agc args=some (res,l)) (hl:aI l):CallsD Try.prog 68 args res:=by
 unfold agc at h;split at h
 ·simp only[Option.some.injEq,Prod.mk.injEq] at h
  obtain⟨rfl,rfl⟩:=h;obtain⟨h0,_⟩:=hl
  exact af9 _ _ _ _ _ _ h0
 ·cases h
def aeQ:List D→Option (D×List Prop)
 |[.rc [.ints .u32 xs, .ints .i64 ys, .bools zs]]=>some (cco xs ys zs,[ccS xs ys zs])
 |_=>none
theorem abm (args res l) (h:aeQ args=some (res,l)) (hl:aI l):CallsD Try.prog 71 args res:=by
 unfold aeQ at h;split at h
 ·simp only[Option.some.injEq,Prod.mk.injEq] at h
  obtain⟨rfl,rfl⟩:=h;obtain⟨h0,_⟩:=hl
  exact afT _ _ _ h0
 ·cases h
def X1:aB:=aJ 70 (.call adA) (aJ 69 (.call aeY) (aJ 19 (.call afq) (aJ 68 (.call agc) (aJ 71 (.call aeQ) X0))))
theorem hX1:bG Try.prog X1:=ax abE (ax abj (ax abv (ax aam (ax abm hX0))))
end TableS
end

section
namespace TableS
open Go Go.Dam Go.Proofs
set_option maxRecDepth 1000000
noncomputable def inT (xs:List Int) (n:Int) (o:Bool) (i:Int):Cs:=⟨TT.of [(0,ri xs),(1,i64 n),(4,bo o),(5,i64 i)],18,[],[],none,0⟩
noncomputable def Wl (xs ys:List Int) (zs:List Bool) (o n i:Int):Cs:=⟨TT.of [(0,cc xs ys zs),(2,i64 o),(3,i64 n),(4,i64 i)],19,[],[],none,0⟩
noncomputable def Lp (xs ys:List Int) (zs:List Bool) (k o i:Int):Cs:=⟨TT.of [(0,cc xs ys zs),(1,u32 k),(4,i64 o),(5,i64 i)],27,[],[],none,0⟩
noncomputable def VE (xs ys:List Int) (zs:List Bool) (p k o:Int) (b:Bool) (n:Int) (s:Bool) (i:Int):Cs:=⟨TT.of [(0,cc xs ys zs),(1,i64 p),(2,u32 k),(6,i64 o),(7,bo b),(8,i64 n),(9,bo s),(10,i64 i)],45,[],[],none,0⟩
noncomputable def siT (xs ys:List Int) (o:Bool) (i:Int):Cs:=⟨TT.of [(0,ri xs),(1,ri ys),(4,bo o),(5,i64 i)],26,[],[],none,0⟩
noncomputable def LG (xs ys:List Int) (o:Bool) (i:Int):Cs:=⟨TT.of [(0,ru xs),(1,ru ys),(4,bo o),(5,i64 i)],26,[],[],none,0⟩
noncomputable def LD (xs:List Int) (n o m i:Int):Cs:=⟨TT.of [(0,ri xs),(1,i64 n),(4,i64 o),(7,i64 m),(8,i64 i)],19,[],[],none,0⟩
noncomputable def VK (xs ys:List Int) (zs:List Bool) (k i n:Int):Cs:=⟨TT.of [(0,cc xs ys zs),(1,u32 k),(4,i64 i),(5,i64 n)],30,[],[],none,0⟩
noncomputable def vH (r n i:Int) (k:Nat) (xs:List Int) (us:List Bool) (f:Int) (ys:List Bool):Cs:=⟨TT.of [(1,(D.ptr 32 0)),(2,i64 r),(3,i64 n),(4,(D.sl 832 0 k ⟨1,0⟩)),(5,i64 i)],77,[],[(32,BX.cells [ri xs,rb us,i64 f] false),(832,BX.row [.bools ys] false)],none,0⟩
end TableS
end

section
namespace TableS
open Go Go.Dam Go.Proofs
set_option maxRecDepth 1000000
theorem dF {i n:Nat} (h:i<n) (hn:n≤200):aj .add .i64 (i:Int) 1=((i+1:Nat):Int):=by
 rw[dX,aT (by omega) (by omega)];omega
theorem ay {i n:Nat} (h:i<n):decide (0≤(i:Int))=true∧decide ((i:Int)<(n:Int))=true:=by simp;exact h
def gJ (p:Nat→Bool):Nat→Nat→Int
 |0,_=>-1
 |d+1,i=>if p i then(i:Int) else gJ p d (i+1)
theorem Gg {p:Nat→Bool}:∀ (d i:Nat),(∀ j,i≤j→j<i+d→p j=false)→gJ p d i=-1
 |0,_,_=>rfl
 |d+1,i,h=>by
  simp only[gJ,h i (Nat.le_refl _) (by omega)]
  exact Gg d (i+1) fun j a b=>h j (by omega) (by omega)
theorem wK {p:Nat→Bool}:∀ (d i j:Nat),i≤j→j<i+d→p j=true→(∀ k,i≤k→k<j→p k=false)→gJ p d i=(j:Int)
 |0,i,j,_,h,_,_=>by omega
 |d+1,i,j,h0,h1,h2,h3=>by
  by_cases e:p i=true
  ·have:i=j:=by
    rcases Nat.eq_or_lt_of_le h0 with q | q
    ·exact q
    ·rw[h3 i (Nat.le_refl _) q] at e;cases e
   subst this;simp only[gJ,e,if_true]
  ·simp only[gJ,e]
   have:i≠j:=fun q=>by rw[q] at e;exact e h2
   exact wK d (i+1) j (by omega) (by omega) h2 fun k a b=>h3 k (by omega) b
theorem dM {p:Nat→Bool}:∀ (d i:Nat),gJ p d i<0↔∀ j,i≤j→j<i+d→p j=false
 |0,i=>⟨fun _ j a b=>by omega,fun _=>by simp[gJ]⟩
 |d+1,i=>by
  by_cases e:p i=true
  ·simp only[gJ,e,if_true]
   exact⟨fun h=>by omega,fun h=>by rw[h i (Nat.le_refl _) (by omega)] at e;cases e⟩
  ·simp only[gJ,e]
   refine(dM d (i+1)).trans ⟨fun h j a b=>?_,fun h j a b=>h j (by omega) (by omega)⟩
   rcases Nat.eq_or_lt_of_le a with q | q
   ·rw[←q];simpa using e
   ·exact h j q (by omega)
theorem I5 (xs:List Int) (n:Int):decide (n∈xs)=!decide (gJ (fun i=>xs.getD i 0 ==n) xs.length 0<0):=by
 rw[Bool.eq_iff_iff]
 simp only[decide_eq_true_eq,Bool.not_eq_true',decide_eq_false_iff_not,dM]
 constructor
 ·intro h q
  obtain⟨i,hi,e⟩:=List.getElem_of_mem h
  have:=q i (by omega) (by omega)
  simp[List.getD_eq_getElem?_getD,List.getElem?_eq_getElem hi,e] at this
 ·intro h
  apply Classical.byContradiction
  intro c
  apply h
  intro j _ hj
  simp only[Nat.zero_add] at hj
  simp only[List.getD_eq_getElem?_getD,List.getElem?_eq_getElem hj,Option.getD_some,beq_eq_false_iff_ne]
  rintro rfl
  exact c (List.getElem_mem hj)
def inB (xs:List Int) (n:Int):Bool:=decide (n∈xs)
def ND (xs ys:List Int):Bool:=decide (xs=ys)
theorem fF {b:Code} (T:Nat→Cs) (n:Nat) (p:Nat→Bool) (C:Int→Prop)
  (hgo:∀ i,i<n→p i=false→∀ (σ:St) (e:Ex),Runs Try.prog (CallsD Try.prog) (.rounds b) (T (i+1)).abs e σ→Runs Try.prog (CallsD Try.prog) (.rounds b) (T i).abs e σ)
  (hno:(∀ (σ:St) (e:Ex),Runs Try.prog (CallsD Try.prog) (.rounds b) (T n).abs e σ→Runs Try.prog (CallsD Try.prog) (.rounds b) (T 0).abs e σ)→C (-1))
  (hye:∀ j,j<n→p j=true→(∀ (σ:St) (e:Ex),Runs Try.prog (CallsD Try.prog) (.rounds b) (T j).abs e σ→Runs Try.prog (CallsD Try.prog) (.rounds b) (T 0).abs e σ)→C j):C (gJ p n 0):=by
 by_cases h:∃ j,0≤j∧j<n∧¬ p j=false
 ·obtain⟨j,_,h1,h2,h3,h4⟩:=jZ T n (fun i=>p i=false) (fun i a c σ e r=>hgo i a c σ e r) n 0 (by omega) h
  rw[wK n 0 j (by omega) (by omega) (by simpa using h2) (fun k a c=>h3 k a c)]
  exact hye j h1 (by simpa using h2) fun σ e r=>h4 σ e r
 ·have hf:∀ j,j<n→p j=false:=fun j a=>by
   cases e:p j with
   |false=>rfl
   |true=>exact absurd ⟨j,by omega,a,by simp[e]⟩ h
  rw[Gg n 0 fun j _ a=>hf j (by omega)]
  exact hno fun σ e r=>dS T n (fun i=>p i=false) (fun i a c σ e r=>hgo i a c σ e r) r n 0 (by omega) fun j _ a=>hf j a
noncomputable def OL (xs:List Int) (n:Int) (o:Bool) (i:Int):Tr (Ex×Cs):= .d (ai .lss i ↑(xs.length)) (fun e0=> .s (decide (i< ↑(xs.length))=true) (.s (decide (0≤i)=true) (.d (ai .eql (xs.getD i.toNat 0) n) (fun e1=> .lf (Ex.ret,(inT (xs) (n) (true) (i)))) (fun e1=> .lf (Ex.normal,(inT (xs) (n) (o) (aj .add .i64 i 1))))))) (fun e0=> .lf (Ex.exit 0,(inT (xs) (n) (o) (i))))
theorem ai1 (xs:List Int) (n:Int) (o:Bool) (i:Int):Leaves (bT Try.prog (X1) 100000 (af Try.prog 78 0) [[0,1,4,5]] [] (inT xs n o i)) (OL xs n o i) [] []:=by refine⟨fun _=>⟨fun _=>?_,fun _=>?_⟩,fun _=>?_⟩<;>(show _=_;kernel_rfl)
theorem Dt (xs:List Int) (n:Int) (o:Bool) (i:Int) (σ:St) (e:Ex) (h0:At (RG Try.prog (af Try.prog 78 0) e σ) (OL xs n o i) [true,true] True) (h1:At (RG Try.prog (af Try.prog 78 0) e σ) (OL xs n o i) [true,false] True) (h2:At (RG Try.prog (af Try.prog 78 0) e σ) (OL xs n o i) [false] True):Runs Try.prog (CallsD Try.prog) (.rounds (af Try.prog 78 0)) (inT xs n o i).abs e σ:=aO (hX1) (ai1 xs n o i) ⟨fun e0=>⟨fun e1=>h0 e0 e1,fun e1=>h1 e0 e1⟩,fun e0=>h2 e0⟩
noncomputable def ada (xs:List Int) (n:Int) (o:Bool) (i:Int):Tr D:= .p (.l [[0,1,4,5]] [] (inT xs n false 0) (Ex.exit 0) (inT xs n o i)) (.s (Runs Try.prog (CallsD Try.prog) (.code (.loop (af Try.prog 78 0))) (inT xs n false 0).abs (Ex.exit 0) (inT xs n o i).abs) (.k ((inT xs n false 0=inT xs n false 0)) rfl (.lf (bo false))))
theorem ah3 (xs:List Int) (n:Int) (o:Bool) (i:Int):Leaves (fun l=>cu Try.prog (X1) 100000 l 78 [ri xs,i64 n]) (ada xs n o i) [] []:=by show _=_;kernel_rfl
theorem V7 (xs:List Int) (n:Int) (o:Bool) (i:Int) (res:D) (h0:At (fun r=>res=r) (ada xs n o i) [] True):CallsD Try.prog 78 [ri xs,i64 n] res:=au (hX1) (ah3 xs n o i) h0
noncomputable def ac3 (xs:List Int) (n:Int) (o:Bool) (i:Int):Tr D:= .p (.l [[0,1,4,5]] [] (inT xs n false 0) Ex.ret (inT xs n o i)) (.s (Runs Try.prog (CallsD Try.prog) (.code (.loop (af Try.prog 78 0))) (inT xs n false 0).abs (Ex.ret) (inT xs n o i).abs) (.k ((inT xs n false 0=inT xs n false 0)) rfl (.lf (bo o))))
theorem ahB (xs:List Int) (n:Int) (o:Bool) (i:Int):Leaves (fun l=>cu Try.prog (X1) 100000 l 78 [ri xs,i64 n]) (ac3 xs n o i) [] []:=by show _=_;kernel_rfl
theorem UH (xs:List Int) (n:Int) (o:Bool) (i:Int) (res:D) (h0:At (fun r=>res=r) (ac3 xs n o i) [] True):CallsD Try.prog 78 [ri xs,i64 n] res:=au (hX1) (ahB xs n o i) h0
noncomputable def Np (xs:List Int) (n:Int) (o:Int) (m:Int) (i:Int):Tr (Ex×Cs):= .d (ai .lss i m) (fun e0=> .s (decide (i< ↑(xs.length))=true) (.s (decide (0≤i)=true) (.d (ai .eql n (xs.getD i.toNat 0)) (fun e1=> .lf (Ex.ret,(LD (xs) (n) (i) (m) (i)))) (fun e1=> .lf (Ex.normal,(LD (xs) (n) (o) (m) (aj .add .i64 i 1))))))) (fun e0=> .lf (Ex.exit 0,(LD (xs) (n) (o) (m) (i))))
theorem ahK (xs:List Int) (n o m i:Int):Leaves (bT Try.prog (X1) 100000 (af Try.prog 88 0) [[0,1,4,7,8]] [] (LD xs n o m i)) (Np xs n o m i) [] []:=by refine⟨fun _=>⟨fun _=>?_,fun _=>?_⟩,fun _=>?_⟩<;>(show _=_;kernel_rfl)
theorem ES (xs:List Int) (n:Int) (o:Int) (m:Int) (i:Int) (σ:St) (e:Ex) (h0:At (RG Try.prog (af Try.prog 88 0) e σ) (Np xs n o m i) [true,true] True) (h1:At (RG Try.prog (af Try.prog 88 0) e σ) (Np xs n o m i) [true,false] True) (h2:At (RG Try.prog (af Try.prog 88 0) e σ) (Np xs n o m i) [false] True):Runs Try.prog (CallsD Try.prog) (.rounds (af Try.prog 88 0)) (LD xs n o m i).abs e σ:=aO (hX1) (ahK xs n o m i) ⟨fun e0=>⟨fun e1=>h0 e0 e1,fun e1=>h1 e0 e1⟩,fun e0=>h2 e0⟩
noncomputable def ac7 (xs:List Int) (n:Int) (o:Int) (m:Int) (i:Int):Tr D:= .p (.l [[0,1,4,7,8]] [] (LD xs n 0 (↑(xs.length)) 0) (Ex.exit 0) (LD xs n o m i)) (.s (Runs Try.prog (CallsD Try.prog) (.code (.loop (af Try.prog 88 0))) (LD xs n 0 (↑(xs.length)) 0).abs (Ex.exit 0) (LD xs n o m i).abs) (.k ((LD xs n 0 (↑(xs.length)) 0=LD xs n 0 (↑(xs.length)) 0)) rfl (.lf (i64 (-1)))))
theorem aia (xs:List Int) (n o m i:Int):Leaves (fun l=>cu Try.prog (X1) 100000 l 88 [ri xs,i64 n]) (ac7 xs n o m i) [] []:=by show _=_;kernel_rfl
theorem Vu (xs:List Int) (n o m i:Int) (res:D) (h0:At (fun r=>res=r) (ac7 xs n o m i) [] True):CallsD Try.prog 88 [ri xs,i64 n] res:=au (hX1) (aia xs n o m i) h0
noncomputable def ac8 (xs:List Int) (n:Int) (o:Int) (m:Int) (i:Int):Tr D:= .p (.l [[0,1,4,7,8]] [] (LD xs n 0 (↑(xs.length)) 0) Ex.ret (LD xs n o m i)) (.s (Runs Try.prog (CallsD Try.prog) (.code (.loop (af Try.prog 88 0))) (LD xs n 0 (↑(xs.length)) 0).abs (Ex.ret) (LD xs n o m i).abs) (.k ((LD xs n 0 (↑(xs.length)) 0=LD xs n 0 (↑(xs.length)) 0)) rfl (.lf (i64 o))))
theorem aib (xs:List Int) (n o m i:Int):Leaves (fun l=>cu Try.prog (X1) 100000 l 88 [ri xs,i64 n]) (ac8 xs n o m i) [] []:=by show _=_;kernel_rfl
theorem Uw (xs:List Int) (n o m i:Int) (res:D) (h0:At (fun r=>res=r) (ac8 xs n o m i) [] True):CallsD Try.prog 88 [ri xs,i64 n] res:=au (hX1) (aib xs n o m i) h0
theorem aiL (xs:List Int) (n:Int) (h:xs.length≤200):CallsD Try.prog 78 [ri xs,i64 n] (bo (inB xs n)):=by
 unfold inB;rw[I5]
 refine fF (b:=af Try.prog 78 0) (fun i=>inT xs n false (i:Int)) xs.length (fun i=>xs.getD i 0 ==n) (fun v=>CallsD Try.prog 78 [ri xs,i64 n] (bo (!decide (v<0)))) ?_ ?_ ?_
 ·intro i hi hp σ e hr
  refine Dt xs n false i σ e ?_ ?_ ?_<;>dsimp only[At,Tr.q,RG,OL]
  ·intro _ g;rw[Int.toNat_natCast,iM] at g;rw[g] at hp;simp at hp
  ·intro _ _;rw[dF hi h];exact⟨⟨(ay hi).1,(ay hi).2,trivial⟩,hr⟩
  ·intro g;rw[aX] at g;omega
 ·intro hr
  refine V7 xs n false xs.length _ ⟨⟨ak (hr _ _ (Dt xs n false xs.length _ _ ?_ ?_ ?_)),trivial⟩,rfl⟩
  ·intro g;rw[aQ] at g;omega
  ·intro g;rw[aQ] at g;omega
  ·intro _;exact⟨trivial,rfl,rfl⟩
 ·intro j hj hp hr
  refine UH xs n true j _ ⟨⟨ak (hr _ _ (Dt xs n false j _ _ ?_ ?_ ?_)),trivial⟩,by simp⟩
  ·intro _ _;exact⟨⟨(ay hj).1,(ay hj).2,trivial⟩,rfl,rfl⟩
  ·intro _ g;rw[Int.toNat_natCast,je] at g;simp at hp;exact absurd hp g
  ·intro g;rw[aX] at g;omega
def ixN (xs:List Int) (n:Int):Int:=gJ (fun i=>n ==xs.getD i 0) xs.length 0
theorem agW (xs:List Int) (n:Int) (h:xs.length≤200):CallsD Try.prog 88 [ri xs,i64 n] (i64 (ixN xs n)):=by
 refine fF (b:=af Try.prog 88 0) (fun i=>LD xs n 0 xs.length (i:Int)) xs.length (fun i=>n ==xs.getD i 0) (fun v=>CallsD Try.prog 88 [ri xs,i64 n] (i64 v)) ?_ ?_ ?_
 ·intro i hi hp σ e hr
  refine ES xs n 0 xs.length i σ e ?_ ?_ ?_<;>dsimp only[At,Tr.q,RG,Np]
  ·intro _ g;rw[Int.toNat_natCast,iM] at g;rw[g] at hp;simp at hp
  ·intro _ _;rw[dF hi h];exact⟨⟨(ay hi).1,(ay hi).2,trivial⟩,hr⟩
  ·intro g;rw[aX] at g;omega
 ·intro hr
  refine Vu xs n 0 xs.length xs.length _ ⟨⟨ak (hr _ _ (ES xs n 0 xs.length xs.length _ _ ?_ ?_ ?_)),trivial⟩,rfl⟩
  ·intro g;rw[aQ] at g;omega
  ·intro g;rw[aQ] at g;omega
  ·intro _;exact⟨trivial,rfl,rfl⟩
 ·intro j hj hp hr
  refine Uw xs n j xs.length j _ ⟨⟨ak (hr _ _ (ES xs n 0 xs.length j _ _ ?_ ?_ ?_)),trivial⟩,rfl⟩
  ·intro _ _;exact⟨⟨(ay hj).1,(ay hj).2,trivial⟩,rfl,rfl⟩
  ·intro _ g;rw[Int.toNat_natCast,je] at g;simp at hp;exact absurd hp g
  ·intro g;rw[aX] at g;omega
end TableS
end

section
namespace TableS
open Go Go.Dam Go.Proofs
set_option maxRecDepth 1000000
theorem Ia {xs ys:List Int} (h:xs.length=ys.length):decide (xs=ys)=decide (gJ (fun i=>xs.getD i 0 != ys.getD i 0) xs.length 0<0):=by
 rw[Bool.eq_iff_iff]
 simp only[decide_eq_true_eq,dM]
 constructor
 ·intro e j _ _;simp[e]
 ·intro q
  apply List.ext_getElem h
  intro i h1 h2
  have:=q i (by omega) (by omega)
  simpa [List.getD_eq_getElem?_getD,List.getElem?_eq_getElem h1,List.getElem?_eq_getElem h2] using this
def cnt (q:Nat→Bool):Nat→Nat
 |0=>0
 |n+1=>cnt q n+bif q n then 1 else 0
def Jm (q:Nat→Bool):Nat→Bool
 |0=>true
 |n+1=>Jm q n && q n
theorem cnt_le (q:Nat→Bool):∀ n,cnt q n≤n
 |0=>Nat.le_refl _
 |n+1=>by have:=cnt_le q n;simp only[cnt];cases q n<;>simp<;>omega
theorem FP {q:Nat→Bool}:∀ {n},Jm q n=true↔∀ i,i<n→q i=true
 |0=>by simp[Jm]
 |n+1=>by
  simp only[Jm,Bool.and_eq_true,FP]
  constructor
  ·intro h i hi
   rcases Nat.lt_or_ge i n with a | a
   ·exact h.1 i a
   ·rw[show i=n by omega];exact h.2
  ·intro h;exact⟨fun i hi=>h i (by omega),h n (by omega)⟩
theorem cnt1 {q:Nat→Bool} {i n:Nat} (h:i<n) (hn:n≤200):aj .add .i64 (cnt q i:Int) 1=((cnt q i+1:Nat):Int):=by
 have:=cnt_le q i
 rw[dX,aT (by omega) (by omega)];omega
noncomputable def LV (xs:List Int) (ys:List Int) (o:Bool) (i:Int):Tr (Ex×Cs):= .d (ai .lss i ↑(xs.length)) (fun e0=> .s (decide (i< ↑(xs.length))=true) (.s (decide (0≤i)=true) (.s (decide (i< ↑(ys.length))=true) (.s (decide (0≤i)=true) (.d (ai .neq (xs.getD i.toNat 0) (ys.getD i.toNat 0)) (fun e1=> .lf (Ex.ret,(siT (xs) (ys) (false) (i)))) (fun e1=> .lf (Ex.normal,(siT (xs) (ys) (o) (aj .add .i64 i 1))))))))) (fun e0=> .lf (Ex.exit 0,(siT (xs) (ys) (o) (i))))
theorem agS (xs ys:List Int) (o:Bool) (i:Int):Leaves (bT Try.prog (X1) 100000 (af Try.prog 85 0) [[0,1,4,5]] [] (siT xs ys o i)) (LV xs ys o i) [] []:=by refine⟨fun _=>⟨fun _=>?_,fun _=>?_⟩,fun _=>?_⟩<;>(show _=_;kernel_rfl)
theorem Di (xs:List Int) (ys:List Int) (o:Bool) (i:Int) (σ:St) (e:Ex) (h0:At (RG Try.prog (af Try.prog 85 0) e σ) (LV xs ys o i) [true,true] True) (h1:At (RG Try.prog (af Try.prog 85 0) e σ) (LV xs ys o i) [true,false] True) (h2:At (RG Try.prog (af Try.prog 85 0) e σ) (LV xs ys o i) [false] True):Runs Try.prog (CallsD Try.prog) (.rounds (af Try.prog 85 0)) (siT xs ys o i).abs e σ:=aO (hX1) (agS xs ys o i) ⟨fun e0=>⟨fun e1=>h0 e0 e1,fun e1=>h1 e0 e1⟩,fun e0=>h2 e0⟩
noncomputable def Si (xs:List Int) (ys:List Int) (o:Bool) (i:Int):Tr D:= .d (ai .neq ↑(xs.length) ↑(ys.length)) (fun e0=> .lf (bo false)) (fun e0=> .p (.l [[0,1,4,5]] [] (siT xs ys false 0) (Ex.exit 0) (siT xs ys o i)) (.s (Runs Try.prog (CallsD Try.prog) (.code (.loop (af Try.prog 85 0))) (siT xs ys false 0).abs (Ex.exit 0) (siT xs ys o i).abs) (.k ((siT xs ys false 0=siT xs ys false 0)) rfl (.lf (bo true)))))
theorem ahk (xs ys:List Int) (o:Bool) (i:Int):Leaves (fun l=>cu Try.prog (X1) 100000 l 85 [ri xs,ri ys]) (Si xs ys o i) [] []:=by refine⟨fun _=>?_,fun _=>?_⟩<;>(show _=_;kernel_rfl)
theorem Hr (xs ys:List Int) (o:Bool) (i:Int) (res:D) (h0:At (fun r=>res=r) (Si xs ys o i) [true] True) (h1:At (fun r=>res=r) (Si xs ys o i) [false] True):CallsD Try.prog 85 [ri xs,ri ys] res:=au (hX1) (ahk xs ys o i) ⟨fun e0=>h0 e0,fun e0=>h1 e0⟩
noncomputable def Zf (xs:List Int) (ys:List Int) (o:Bool) (i:Int):Tr D:= .d (ai .neq ↑(xs.length) ↑(ys.length)) (fun e0=> .lf (bo false)) (fun e0=> .p (.l [[0,1,4,5]] [] (siT xs ys false 0) Ex.ret (siT xs ys o i)) (.s (Runs Try.prog (CallsD Try.prog) (.code (.loop (af Try.prog 85 0))) (siT xs ys false 0).abs (Ex.ret) (siT xs ys o i).abs) (.k ((siT xs ys false 0=siT xs ys false 0)) rfl (.lf (bo o)))))
theorem ait (xs ys:List Int) (o:Bool) (i:Int):Leaves (fun l=>cu Try.prog (X1) 100000 l 85 [ri xs,ri ys]) (Zf xs ys o i) [] []:=by refine⟨fun _=>?_,fun _=>?_⟩<;>(show _=_;kernel_rfl)
theorem VJ (xs ys:List Int) (o:Bool) (i:Int) (res:D) (h0:At (fun r=>res=r) (Zf xs ys o i) [true] True) (h1:At (fun r=>res=r) (Zf xs ys o i) [false] True):CallsD Try.prog 85 [ri xs,ri ys] res:=au (hX1) (ait xs ys o i) ⟨fun e0=>h0 e0,fun e0=>h1 e0⟩
theorem ag9 (xs ys:List Int) (h:xs.length≤200):CallsD Try.prog 85 [ri xs,ri ys] (bo (ND xs ys)):=by
 unfold ND
 by_cases hl:xs.length=ys.length
 ·rw[Ia hl]
  refine fF (b:=af Try.prog 85 0) (fun i=>siT xs ys false (i:Int)) xs.length (fun i=>xs.getD i 0 != ys.getD i 0) (fun v=>CallsD Try.prog 85 [ri xs,ri ys] (bo (decide (v<0)))) ?_ ?_ ?_
  ·intro i hi hp σ e hr
   have hj:i<ys.length:=by omega
   refine Di xs ys false i σ e ?_ ?_ ?_<;>dsimp only[At,Tr.q,RG,LV]
   ·intro _ g;rw[Int.toNat_natCast,aP] at g;simp at hp;exact absurd hp g
   ·intro _ _;rw[dF hi h];exact⟨⟨(ay hj).1,(ay hj).2,(ay hi).1,(ay hi).2,trivial⟩,hr⟩
   ·intro g;rw[aX] at g;omega
  ·intro hr
   refine Hr xs ys false xs.length _ (fun g=>?_) fun _=>⟨⟨ak (hr _ _ (Di xs ys false xs.length _ _ ?_ ?_ ?_)),trivial⟩,rfl⟩
   ·rw[aP] at g;omega
   ·intro g;rw[aQ] at g;omega
   ·intro g;rw[aQ] at g;omega
   ·intro _;exact⟨trivial,rfl,rfl⟩
  ·intro j hj hp hr
   have hj':j<ys.length:=by omega
   refine VJ xs ys false j _ (fun g=>?_) fun _=>⟨⟨ak (hr _ _ (Di xs ys false j _ _ ?_ ?_ ?_)),trivial⟩,by simp⟩
   ·rw[aP] at g;omega
   ·intro _ _;exact⟨⟨(ay hj').1,(ay hj').2,(ay hj).1,(ay hj).2,trivial⟩,rfl,rfl⟩
   ·intro _ g;rw[Int.toNat_natCast,aY] at g;simp at hp;exact absurd g hp
   ·intro g;rw[aX] at g;omega
 ·rw[decide_eq_false (fun e=>hl (by rw[e]))]
  refine Hr xs ys false 0 _ (fun _=>⟨trivial,rfl⟩) fun g=>?_<;>dsimp only[At,Tr.q,Si]
  rw[aY] at g;omega
noncomputable def NY (xs:List Int) (ys:List Int) (o:Bool) (i:Int):Tr (Ex×Cs):= .d (ai .lss i ↑(xs.length)) (fun e0=> .s (decide (i< ↑(xs.length))=true) (.s (decide (0≤i)=true) (.s (decide (i< ↑(ys.length))=true) (.s (decide (0≤i)=true) (.d (ai .neq (xs.getD i.toNat 0) (ys.getD i.toNat 0)) (fun e1=> .lf (Ex.ret,(LG (xs) (ys) (false) (i)))) (fun e1=> .lf (Ex.normal,(LG (xs) (ys) (o) (aj .add .i64 i 1))))))))) (fun e0=> .lf (Ex.exit 0,(LG (xs) (ys) (o) (i))))
theorem aiT (xs ys:List Int) (o:Bool) (i:Int):Leaves (bT Try.prog (X1) 100000 (af Try.prog 32 0) [[0,1,4,5]] [] (LG xs ys o i)) (NY xs ys o i) [] []:=by refine⟨fun _=>⟨fun _=>?_,fun _=>?_⟩,fun _=>?_⟩<;>(show _=_;kernel_rfl)
theorem Fa (xs:List Int) (ys:List Int) (o:Bool) (i:Int) (σ:St) (e:Ex) (h0:At (RG Try.prog (af Try.prog 32 0) e σ) (NY xs ys o i) [true,true] True) (h1:At (RG Try.prog (af Try.prog 32 0) e σ) (NY xs ys o i) [true,false] True) (h2:At (RG Try.prog (af Try.prog 32 0) e σ) (NY xs ys o i) [false] True):Runs Try.prog (CallsD Try.prog) (.rounds (af Try.prog 32 0)) (LG xs ys o i).abs e σ:=aO (hX1) (aiT xs ys o i) ⟨fun e0=>⟨fun e1=>h0 e0 e1,fun e1=>h1 e0 e1⟩,fun e0=>h2 e0⟩
noncomputable def Rz (xs:List Int) (ys:List Int) (o:Bool) (i:Int):Tr D:= .d (ai .neq ↑(xs.length) ↑(ys.length)) (fun e0=> .lf (bo false)) (fun e0=> .p (.l [[0,1,4,5]] [] (LG xs ys false 0) (Ex.exit 0) (LG xs ys o i)) (.s (Runs Try.prog (CallsD Try.prog) (.code (.loop (af Try.prog 32 0))) (LG xs ys false 0).abs (Ex.exit 0) (LG xs ys o i).abs) (.k ((LG xs ys false 0=LG xs ys false 0)) rfl (.lf (bo true)))))
theorem agC (xs ys:List Int) (o:Bool) (i:Int):Leaves (fun l=>cu Try.prog (X1) 100000 l 32 [ru xs,ru ys]) (Rz xs ys o i) [] []:=by refine⟨fun _=>?_,fun _=>?_⟩<;>(show _=_;kernel_rfl)
theorem Jd (xs ys:List Int) (o:Bool) (i:Int) (res:D) (h0:At (fun r=>res=r) (Rz xs ys o i) [true] True) (h1:At (fun r=>res=r) (Rz xs ys o i) [false] True):CallsD Try.prog 32 [ru xs,ru ys] res:=au (hX1) (agC xs ys o i) ⟨fun e0=>h0 e0,fun e0=>h1 e0⟩
noncomputable def Xy (xs:List Int) (ys:List Int) (o:Bool) (i:Int):Tr D:= .d (ai .neq ↑(xs.length) ↑(ys.length)) (fun e0=> .lf (bo false)) (fun e0=> .p (.l [[0,1,4,5]] [] (LG xs ys false 0) Ex.ret (LG xs ys o i)) (.s (Runs Try.prog (CallsD Try.prog) (.code (.loop (af Try.prog 32 0))) (LG xs ys false 0).abs (Ex.ret) (LG xs ys o i).abs) (.k ((LG xs ys false 0=LG xs ys false 0)) rfl (.lf (bo o)))))
theorem agT (xs ys:List Int) (o:Bool) (i:Int):Leaves (fun l=>cu Try.prog (X1) 100000 l 32 [ru xs,ru ys]) (Xy xs ys o i) [] []:=by refine⟨fun _=>?_,fun _=>?_⟩<;>(show _=_;kernel_rfl)
theorem V8 (xs ys:List Int) (o:Bool) (i:Int) (res:D) (h0:At (fun r=>res=r) (Xy xs ys o i) [true] True) (h1:At (fun r=>res=r) (Xy xs ys o i) [false] True):CallsD Try.prog 32 [ru xs,ru ys] res:=au (hX1) (agT xs ys o i) ⟨fun e0=>h0 e0,fun e0=>h1 e0⟩
theorem aiR (xs ys:List Int) (h:xs.length≤200):CallsD Try.prog 32 [ru xs,ru ys] (bo (ND xs ys)):=by
 unfold ND
 by_cases hl:xs.length=ys.length
 ·rw[Ia hl]
  refine fF (b:=af Try.prog 32 0) (fun i=>LG xs ys false (i:Int)) xs.length (fun i=>xs.getD i 0 != ys.getD i 0) (fun v=>CallsD Try.prog 32 [ru xs,ru ys] (bo (decide (v<0)))) ?_ ?_ ?_
  ·intro i hi hp σ e hr
   have hj:i<ys.length:=by omega
   refine Fa xs ys false i σ e ?_ ?_ ?_<;>dsimp only[At,Tr.q,RG,NY]
   ·intro _ g;rw[Int.toNat_natCast,aP] at g;simp at hp;exact absurd hp g
   ·intro _ _;rw[dF hi h];exact⟨⟨(ay hj).1,(ay hj).2,(ay hi).1,(ay hi).2,trivial⟩,hr⟩
   ·intro g;rw[aX] at g;omega
  ·intro hr
   refine Jd xs ys false xs.length _ (fun g=>?_) fun _=>⟨⟨ak (hr _ _ (Fa xs ys false xs.length _ _ ?_ ?_ ?_)),trivial⟩,rfl⟩
   ·rw[aP] at g;omega
   ·intro g;rw[aQ] at g;omega
   ·intro g;rw[aQ] at g;omega
   ·intro _;exact⟨trivial,rfl,rfl⟩
  ·intro j hj hp hr
   have hj':j<ys.length:=by omega
   refine V8 xs ys false j _ (fun g=>?_) fun _=>⟨⟨ak (hr _ _ (Fa xs ys false j _ _ ?_ ?_ ?_)),trivial⟩,by simp⟩
   ·rw[aP] at g;omega
   ·intro _ _;exact⟨⟨(ay hj').1,(ay hj').2,(ay hj).1,(ay hj).2,trivial⟩,rfl,rfl⟩
   ·intro _ g;rw[Int.toNat_natCast,aY] at g;simp at hp;exact absurd g hp
   ·intro g;rw[aX] at g;omega
 ·rw[decide_eq_false (fun e=>hl (by rw[e]))]
  refine Jd xs ys false 0 _ (fun _=>⟨trivial,rfl⟩) fun g=>?_<;>dsimp only[At,Tr.q,Rz]
  rw[aY] at g;omega
noncomputable def II (xs:List Int) (ys:List Int) (zs:List Bool) (o:Int) (n:Int) (i:Int):Tr (Ex×Cs):= .d (ai .lss i ↑(xs.length)) (fun e0=> .s (decide (i< ↑(xs.length))=true) (.s (decide (0≤i)=true) (.d (zs.getD i.toNat false) (fun e1=> .lf (Ex.normal,(Wl (xs) (ys) (zs) (o) (aj .add .i64 n 1) (aj .add .i64 i 1)))) (fun e1=> .lf (Ex.normal,(Wl (xs) (ys) (zs) (o) (n) (aj .add .i64 i 1))))))) (fun e0=> .lf (Ex.exit 0,(Wl (xs) (ys) (zs) (o) (n) (i))))
theorem aip (xs ys:List Int) (zs:List Bool) (o n i:Int):Leaves (bT Try.prog (X1) 100000 (af Try.prog 76 0) [[0,2,3,4]] [] (Wl xs ys zs o n i)) (II xs ys zs o n i) [] []:=by refine⟨fun _=>⟨fun _=>?_,fun _=>?_⟩,fun _=>?_⟩<;>(show _=_;kernel_rfl)
theorem OE (xs:List Int) (ys:List Int) (zs:List Bool) (o:Int) (n:Int) (i:Int) (σ:St) (e:Ex) (h0:At (RG Try.prog (af Try.prog 76 0) e σ) (II xs ys zs o n i) [true,true] True) (h1:At (RG Try.prog (af Try.prog 76 0) e σ) (II xs ys zs o n i) [true,false] True) (h2:At (RG Try.prog (af Try.prog 76 0) e σ) (II xs ys zs o n i) [false] True):Runs Try.prog (CallsD Try.prog) (.rounds (af Try.prog 76 0)) (Wl xs ys zs o n i).abs e σ:=aO (hX1) (aip xs ys zs o n i) ⟨fun e0=>⟨fun e1=>h0 e0 e1,fun e1=>h1 e0 e1⟩,fun e0=>h2 e0⟩
noncomputable def acD (xs:List Int) (ys:List Int) (zs:List Bool) (o:Int) (n:Int) (i:Int):Tr D:= .p (.l [[0,2,3,4]] [] (Wl xs ys zs 0 0 0) (Ex.exit 0) (Wl xs ys zs o n i)) (.s (Runs Try.prog (CallsD Try.prog) (.code (.loop (af Try.prog 76 0))) (Wl xs ys zs 0 0 0).abs (Ex.exit 0) (Wl xs ys zs o n i).abs) (.k ((Wl xs ys zs 0 0 0=Wl xs ys zs 0 0 0)) rfl (.lf (i64 n))))
theorem ahQ (xs ys:List Int) (zs:List Bool) (o n i:Int):Leaves (fun l=>cu Try.prog (X1) 100000 l 76 [cc xs ys zs]) (acD xs ys zs o n i) [] []:=by show _=_;kernel_rfl
theorem V4 (xs ys:List Int) (zs:List Bool) (o n i:Int) (res:D) (h0:At (fun r=>res=r) (acD xs ys zs o n i) [] True):CallsD Try.prog 76 [cc xs ys zs] res:=au (hX1) (ahQ xs ys zs o n i) h0
noncomputable def J6 (xs ys:List Int) (zs:List Bool) (k o i:Int):=Lp (xs) (ys) (zs) (k) (o) (aj .add .i64 i 1)
noncomputable def IQ (xs:List Int) (ys:List Int) (zs:List Bool) (k:Int) (o:Int) (i:Int):Tr (Ex×Cs):= .d (ai .lss i ↑(xs.length)) (fun e0=> .s (decide (i< ↑(xs.length))=true) (.s (decide (0≤i)=true) (.d (zs.getD i.toNat false) (fun e1=> .p (.c 5) (.s (decide (i< ↑(xs.length))=true) (.s (decide (0≤i)=true) (.d (ai .eql (xs.getD i.toNat 0) k) (fun e2=> .lf (Ex.ret,(Lp (xs) (ys) (zs) (k) (i) (i)))) (fun e2=> .lf (Ex.normal,(J6 xs ys zs k o i))))))) (fun e1=> .p (.c 6) (.lf (Ex.normal,(J6 xs ys zs k o i))))))) (fun e0=> .lf (Ex.exit 0,(Lp (xs) (ys) (zs) (k) (o) (i))))
theorem ah9 (xs ys:List Int) (zs:List Bool) (k o i:Int):Leaves (bT Try.prog (X1) 100000 (af Try.prog 93 0) [[0,1,4,5]] [] (Lp xs ys zs k o i)) (IQ xs ys zs k o i) [] []:=by refine⟨fun _=>⟨fun _=>⟨fun _=>?_,fun _=>?_⟩,fun _=>?_⟩,fun _=>?_⟩<;>(show _=_;kernel_rfl)
theorem F8 (xs:List Int) (ys:List Int) (zs:List Bool) (k:Int) (o:Int) (i:Int) (σ:St) (e:Ex) (h0:At (RG Try.prog (af Try.prog 93 0) e σ) (IQ xs ys zs k o i) [true,true,true] True) (h1:At (RG Try.prog (af Try.prog 93 0) e σ) (IQ xs ys zs k o i) [true,true,false] True) (h2:At (RG Try.prog (af Try.prog 93 0) e σ) (IQ xs ys zs k o i) [true,false] True) (h3:At (RG Try.prog (af Try.prog 93 0) e σ) (IQ xs ys zs k o i) [false] True):Runs Try.prog (CallsD Try.prog) (.rounds (af Try.prog 93 0)) (Lp xs ys zs k o i).abs e σ:=aO (hX1) (ah9 xs ys zs k o i) ⟨fun e0=>⟨fun e1=>⟨fun e2=>h0 e0 e1 e2,fun e2=>h1 e0 e1 e2⟩,fun e1=>h2 e0 e1⟩,fun e0=>h3 e0⟩
noncomputable def acM (xs:List Int) (ys:List Int) (zs:List Bool) (k:Int) (o:Int) (i:Int):Tr D:= .p (.l [[0,1,4,5]] [] (Lp xs ys zs k 0 0) (Ex.exit 0) (Lp xs ys zs k o i)) (.s (Runs Try.prog (CallsD Try.prog) (.code (.loop (af Try.prog 93 0))) (Lp xs ys zs k 0 0).abs (Ex.exit 0) (Lp xs ys zs k o i).abs) (.k ((Lp xs ys zs k 0 0=Lp xs ys zs k 0 0)) rfl (.lf (i64 (-1)))))
theorem aiF (xs ys:List Int) (zs:List Bool) (k o i:Int):Leaves (fun l=>cu Try.prog (X1) 100000 l 93 [cc xs ys zs,u32 k]) (acM xs ys zs k o i) [] []:=by show _=_;kernel_rfl
theorem Ue (xs ys:List Int) (zs:List Bool) (k o i:Int) (res:D) (h0:At (fun r=>res=r) (acM xs ys zs k o i) [] True):CallsD Try.prog 93 [cc xs ys zs,u32 k] res:=au (hX1) (aiF xs ys zs k o i) h0
noncomputable def acW (xs:List Int) (ys:List Int) (zs:List Bool) (k:Int) (o:Int) (i:Int):Tr D:= .p (.l [[0,1,4,5]] [] (Lp xs ys zs k 0 0) Ex.ret (Lp xs ys zs k o i)) (.s (Runs Try.prog (CallsD Try.prog) (.code (.loop (af Try.prog 93 0))) (Lp xs ys zs k 0 0).abs (Ex.ret) (Lp xs ys zs k o i).abs) (.k ((Lp xs ys zs k 0 0=Lp xs ys zs k 0 0)) rfl (.lf (i64 o))))
theorem aiB (xs ys:List Int) (zs:List Bool) (k o i:Int):Leaves (fun l=>cu Try.prog (X1) 100000 l 93 [cc xs ys zs,u32 k]) (acW xs ys zs k o i) [] []:=by show _=_;kernel_rfl
theorem VI (xs ys:List Int) (zs:List Bool) (k o i:Int) (res:D) (h0:At (fun r=>res=r) (acW xs ys zs k o i) [] True):CallsD Try.prog 93 [cc xs ys zs,u32 k] res:=au (hX1) (aiB xs ys zs k o i) h0
noncomputable def La (xs ys:List Int) (zs:List Bool) (p k o:Int) (b:Bool) (n:Int) (s:Bool) (i:Int):=VE (xs) (ys) (zs) (p) (k) (o) (b) (n) (s) (aj .add .i64 i 1)
noncomputable def AZ (xs:List Int) (ys:List Int) (zs:List Bool) (p:Int) (k:Int) (o:Int) (b:Bool) (n:Int) (s:Bool) (i:Int):Tr (Ex×Cs):= .d (ai .lss i ↑(xs.length)) (fun e0=> .s (decide (i< ↑(xs.length))=true) (.s (decide (0≤i)=true) (.d (zs.getD i.toNat false) (fun e1=> .p (.c 5) (.s (decide (i< ↑(xs.length))=true) (.s (decide (0≤i)=true) (.d (ai .eql (ys.getD i.toNat 0) p) (fun e2=> .d (s) (fun e3=> .p (.c 5) (.s (decide (i< ↑(xs.length))=true) (.s (decide (0≤i)=true) (.lf (Ex.normal,(VE (xs) (ys) (zs) (p) (k) (o) (b) (aj .add .i64 n 1) (ai .eql (xs.getD i.toNat 0) k) (aj .add .i64 i 1))))))) (fun e3=> .p (.c 5) (.lf (Ex.normal,(VE (xs) (ys) (zs) (p) (k) (o) (b) (aj .add .i64 n 1) (false) (aj .add .i64 i 1)))))) (fun e2=> .lf (Ex.normal,(La xs ys zs p k o b n s i))))))) (fun e1=> .p (.c 6) (.lf (Ex.normal,(La xs ys zs p k o b n s i))))))) (fun e0=> .lf (Ex.exit 0,(VE (xs) (ys) (zs) (p) (k) (o) (b) (n) (s) (i))))
theorem agM (xs ys:List Int) (zs:List Bool) (p k o:Int) (b:Bool) (n:Int) (s:Bool) (i:Int):Leaves (bT Try.prog (X1) 100000 (af Try.prog 77 0) [[0,1,2,6,7,8,9,10]] [] (VE xs ys zs p k o b n s i)) (AZ xs ys zs p k o b n s i) [] []:=by refine⟨fun _=>⟨fun _=>⟨fun _=>⟨fun _=>?_,fun _=>?_⟩,fun _=>?_⟩,fun _=>?_⟩,fun _=>?_⟩<;>(show _=_;kernel_rfl)
theorem L8 (xs:List Int) (ys:List Int) (zs:List Bool) (p:Int) (k:Int) (o:Int) (b:Bool) (n:Int) (s:Bool) (i:Int) (σ:St) (e:Ex) (h0:At (RG Try.prog (af Try.prog 77 0) e σ) (AZ xs ys zs p k o b n s i) [true,true,true,true] True) (h1:At (RG Try.prog (af Try.prog 77 0) e σ) (AZ xs ys zs p k o b n s i) [true,true,true,false] True) (h2:At (RG Try.prog (af Try.prog 77 0) e σ) (AZ xs ys zs p k o b n s i) [true,true,false] True) (h3:At (RG Try.prog (af Try.prog 77 0) e σ) (AZ xs ys zs p k o b n s i) [true,false] True) (h4:At (RG Try.prog (af Try.prog 77 0) e σ) (AZ xs ys zs p k o b n s i) [false] True):Runs Try.prog (CallsD Try.prog) (.rounds (af Try.prog 77 0)) (VE xs ys zs p k o b n s i).abs e σ:=aO (hX1) (agM xs ys zs p k o b n s i) ⟨fun e0=>⟨fun e1=>⟨fun e2=>⟨fun e3=>h0 e0 e1 e2 e3,fun e3=>h1 e0 e1 e2 e3⟩,fun e2=>h2 e0 e1 e2⟩,fun e1=>h3 e0 e1⟩,fun e0=>h4 e0⟩
noncomputable def acP (xs:List Int) (ys:List Int) (zs:List Bool) (p:Int) (k:Int) (o:Int) (b:Bool) (n:Int) (s:Bool) (i:Int):Tr D:= .p (.l [[0,1,2,6,7,8,9,10]] [] (VE xs ys zs p k 0 false 0 true 0) (Ex.exit 0) (VE xs ys zs p k o b n s i)) (.s (Runs Try.prog (CallsD Try.prog) (.code (.loop (af Try.prog 77 0))) (VE xs ys zs p k 0 false 0 true 0).abs (Ex.exit 0) (VE xs ys zs p k o b n s i).abs) (.k ((VE xs ys zs p k 0 false 0 true 0=VE xs ys zs p k 0 false 0 true 0)) rfl (.lf (D.bF [i64 n,bo s]))))
theorem ahS (xs ys:List Int) (zs:List Bool) (p k o:Int) (b:Bool) (n:Int) (s:Bool) (i:Int):Leaves (fun l=>cu Try.prog (X1) 100000 l 77 [cc xs ys zs,i64 p,u32 k]) (acP xs ys zs p k o b n s i) [] []:=by show _=_;kernel_rfl
theorem Vr (xs ys:List Int) (zs:List Bool) (p k o:Int) (b:Bool) (n:Int) (s:Bool) (i:Int) (res:D) (h0:At (fun r=>res=r) (acP xs ys zs p k o b n s i) [] True):CallsD Try.prog 77 [cc xs ys zs,i64 p,u32 k] res:=au (hX1) (ahS xs ys zs p k o b n s i) h0
def iL (n:Nat) (zs:List Bool):Nat:=cnt (fun i=>zs.getD i false) n
theorem ahm (xs ys:List Int) (zs:List Bool) (h:xs.length≤200):CallsD Try.prog 76 [cc xs ys zs] (i64 (iL xs.length zs)):=by
 refine V4 xs ys zs 0 (iL xs.length zs) xs.length _ ⟨⟨ak ?_,trivial⟩,rfl⟩
 refine dS (fun i=>Wl xs ys zs 0 (iL i zs:Nat) (i:Int)) xs.length (fun _=>True) (fun i hi _ σ e hr=>?_) ?_ xs.length 0 (by omega) (fun _ _ _=>trivial)
 ·refine OE xs ys zs 0 _ i σ e ?_ ?_ ?_<;>dsimp only[At,Tr.q,RG,II]
  ·intro _ g
   rw[Int.toNat_natCast] at g
   rw[dF hi h];unfold iL;rw[cnt1 hi h]
   refine⟨⟨(ay hi).1,(ay hi).2,trivial⟩,?_⟩
   simp only[iL,cnt,g,cond_true] at hr;exact hr
  ·intro _ g
   rw[Int.toNat_natCast] at g
   rw[dF hi h]
   refine⟨⟨(ay hi).1,(ay hi).2,trivial⟩,?_⟩
   simp only[iL,cnt,g,cond_false,Nat.add_zero] at hr;exact hr
  ·intro g;rw[aX] at g;omega
 ·refine OE xs ys zs 0 _ xs.length _ _ ?_ ?_ ?_<;>dsimp only[At,Tr.q,RG,II]
  ·intro g;rw[aQ] at g;omega
  ·intro g;rw[aQ] at g;omega
  ·intro _;exact⟨trivial,rfl,rfl⟩
def atN (xs:List Int) (zs:List Bool) (k:Int):Int:=gJ (fun i=>zs.getD i false && xs.getD i 0 ==k) xs.length 0
theorem aiK (xs ys:List Int) (zs:List Bool) (k:Int) (h:xs.length≤200):CallsD Try.prog 93 [cc xs ys zs,u32 k] (i64 (atN xs zs k)):=by
 refine fF (b:=af Try.prog 93 0) (fun i=>Lp xs ys zs k 0 (i:Int)) xs.length (fun i=>zs.getD i false && xs.getD i 0 ==k) (fun v=>CallsD Try.prog 93 [cc xs ys zs,u32 k] (i64 v)) ?_ ?_ ?_
 ·intro i hi hp σ e hr
  refine F8 xs ys zs k 0 i σ e ?_ ?_ ?_ ?_<;>dsimp only[At,Tr.q,RG,IQ]
  ·intro _ g1 g2;rw[Int.toNat_natCast] at g1;rw[Int.toNat_natCast,iM] at g2;rw[g1,g2] at hp;simp at hp
  ·intro _ _ _;unfold J6;rw[dF hi h];exact⟨⟨(ay hi).1,(ay hi).2,(ay hi).1,(ay hi).2,trivial⟩,hr⟩
  ·intro _ _;unfold J6;rw[dF hi h];exact⟨⟨(ay hi).1,(ay hi).2,trivial⟩,hr⟩
  ·intro g;rw[aX] at g;omega
 ·intro hr
  refine Ue xs ys zs k 0 xs.length _ ⟨⟨ak (hr _ _ (F8 xs ys zs k 0 xs.length _ _ ?_ ?_ ?_ ?_)),trivial⟩,rfl⟩
  ·intro g;rw[aQ] at g;omega
  ·intro g;rw[aQ] at g;omega
  ·intro g;rw[aQ] at g;omega
  ·intro _;exact⟨trivial,rfl,rfl⟩
 ·intro j hj hp hr
  simp only[Bool.and_eq_true,beq_iff_eq] at hp
  refine VI xs ys zs k j j _ ⟨⟨ak (hr _ _ (F8 xs ys zs k 0 j _ _ ?_ ?_ ?_ ?_)),trivial⟩,rfl⟩
  ·intro _ _ _;exact⟨⟨(ay hj).1,(ay hj).2,(ay hj).1,(ay hj).2,trivial⟩,rfl,rfl⟩
  ·intro _ _ g;rw[Int.toNat_natCast,je] at g;exact absurd hp.2 g
  ·intro _ g;rw[Int.toNat_natCast,hp.1] at g;cases g
  ·intro g;rw[aX] at g;omega
def Lj (ys:List Int) (zs:List Bool) (p:Int) (i:Nat):Bool:=zs.getD i false && ys.getD i 0 ==p
def Gu (n:Nat) (ys:List Int) (zs:List Bool) (p:Int):Nat:=cnt (Lj ys zs p) n
def RD (n:Nat) (xs ys:List Int) (zs:List Bool) (p k:Int):Bool:=Jm (fun i=>!Lj ys zs p i || xs.getD i 0 ==k) n
theorem ahY (xs ys:List Int) (zs:List Bool) (p k:Int) (h:xs.length≤200):CallsD Try.prog 77 [cc xs ys zs,i64 p,u32 k] (.bF [i64 (Gu xs.length ys zs p),bo (RD xs.length xs ys zs p k)]):=by
 refine Vr xs ys zs p k 0 false (Gu xs.length ys zs p) (RD xs.length xs ys zs p k) xs.length _ ⟨⟨ak ?_,trivial⟩,rfl⟩
 refine dS (fun i=>VE xs ys zs p k 0 false (Gu i ys zs p:Nat) (RD i xs ys zs p k) (i:Int)) xs.length (fun _=>True) (fun i hi _ σ e hr=>?_) ?_ xs.length 0 (by omega) (fun _ _ _=>trivial)
 ·refine L8 xs ys zs p k 0 false _ _ i σ e ?_ ?_ ?_ ?_ ?_<;>dsimp only[At,Tr.q,RG,AZ]
  ·intro _ g1 g2 g3
   rw[Int.toNat_natCast] at g1;rw[Int.toNat_natCast,iM] at g2
   have q:Lj ys zs p i=true:=by unfold Lj;rw[g1,g2];simp
   rw[dF hi h];unfold Gu;rw[cnt1 hi h]
   refine⟨⟨(ay hi).1,(ay hi).2,(ay hi).1,(ay hi).2,(ay hi).1,(ay hi).2,trivial⟩,?_⟩
   unfold RD at g3
   simp only[Gu,RD,cnt,Jm,q,cond_true,g3,Bool.true_and,Bool.not_true,Bool.false_or] at hr
   exact hr
  ·intro _ g1 g2 g3
   rw[Int.toNat_natCast] at g1;rw[Int.toNat_natCast,iM] at g2
   have q:Lj ys zs p i=true:=by unfold Lj;rw[g1,g2];simp
   rw[dF hi h];unfold Gu;rw[cnt1 hi h]
   refine⟨⟨(ay hi).1,(ay hi).2,(ay hi).1,(ay hi).2,trivial⟩,?_⟩
   unfold RD at g3
   simp only[Gu,RD,cnt,Jm,q,cond_true,g3,Bool.false_and] at hr
   exact hr
  ·intro _ g1 g2
   rw[Int.toNat_natCast,je] at g2
   have q:Lj ys zs p i=false:=by unfold Lj;rw[beq_eq_false_iff_ne.2 g2,Bool.and_false]
   unfold La;rw[dF hi h]
   refine⟨⟨(ay hi).1,(ay hi).2,(ay hi).1,(ay hi).2,trivial⟩,?_⟩
   simp only[Gu,RD,cnt,Jm,q,cond_false,Nat.add_zero,Bool.not_false,Bool.true_or,Bool.and_true] at hr
   exact hr
  ·intro _ g1
   rw[Int.toNat_natCast] at g1
   have q:Lj ys zs p i=false:=by simp only[Lj,g1,Bool.false_and]
   unfold La;rw[dF hi h]
   refine⟨⟨(ay hi).1,(ay hi).2,trivial⟩,?_⟩
   simp only[Gu,RD,cnt,Jm,q,cond_false,Nat.add_zero,Bool.not_false,Bool.true_or,Bool.and_true] at hr
   exact hr
  ·intro g;rw[aX] at g;omega
 ·refine L8 xs ys zs p k 0 false _ _ xs.length _ _ ?_ ?_ ?_ ?_ ?_<;>dsimp only[At,Tr.q,RG,AZ]
  ·intro g;rw[aQ] at g;omega
  ·intro g;rw[aQ] at g;omega
  ·intro g;rw[aQ] at g;omega
  ·intro g;rw[aQ] at g;omega
  ·intro _;exact⟨trivial,rfl,rfl⟩
def inC:List D→Option (D×List Prop)
 |[.rc [.ints .i64 xs], .v (.int .i64 n)]=>some (bo (inB xs n),[xs.length≤200])
 |_=>none
theorem adJ (args res l) (h:inC args=some (res,l)) (hl:aI l):CallsD Try.prog 78 args res:=by
 unfold inC at h;split at h
 ·simp only[Option.some.injEq,Prod.mk.injEq] at h
  obtain⟨rfl,rfl⟩:=h;obtain⟨h0,_⟩:=hl
  exact aiL _ _ h0
 ·cases h
def ixC:List D→Option (D×List Prop)
 |[.rc [.ints .i64 xs], .v (.int .i64 n)]=>some (i64 (ixN xs n),[xs.length≤200])
 |_=>none
theorem afO (args res l) (h:ixC args=some (res,l)) (hl:aI l):CallsD Try.prog 88 args res:=by
 unfold ixC at h;split at h
 ·simp only[Option.some.injEq,Prod.mk.injEq] at h
  obtain⟨rfl,rfl⟩:=h;obtain⟨h0,_⟩:=hl
  exact agW _ _ h0
 ·cases h
def siC:List D→Option (D×List Prop)
 |[.rc [.ints .i64 xs], .rc [.ints .i64 ys]]=>some (bo (ND xs ys),[xs.length≤200])
 |_=>none
theorem aeA (args res l) (h:siC args=some (res,l)) (hl:aI l):CallsD Try.prog 85 args res:=by
 unfold siC at h;split at h
 ·simp only[Option.some.injEq,Prod.mk.injEq] at h
  obtain⟨rfl,rfl⟩:=h;obtain⟨h0,_⟩:=hl
  exact ag9 _ _ h0
 ·cases h
def skC:List D→Option (D×List Prop)
 |[.rc [.ints .u32 xs], .rc [.ints .u32 ys]]=>some (bo (ND xs ys),[xs.length≤200])
 |_=>none
theorem afV (args res l) (h:skC args=some (res,l)) (hl:aI l):CallsD Try.prog 32 args res:=by
 unfold skC at h;split at h
 ·simp only[Option.some.injEq,Prod.mk.injEq] at h
  obtain⟨rfl,rfl⟩:=h;obtain⟨h0,_⟩:=hl
  exact aiR _ _ h0
 ·cases h
def ctC:List D→Option (D×List Prop)
 |[.rc [.ints .u32 xs, .ints .i64 ys, .bools zs]]=>some (i64 (iL xs.length zs),[xs.length≤200])
 |_=>none
theorem ad5 (args res l) (h:ctC args=some (res,l)) (hl:aI l):CallsD Try.prog 76 args res:=by
 unfold ctC at h;split at h
 ·simp only[Option.some.injEq,Prod.mk.injEq] at h
  obtain⟨rfl,rfl⟩:=h;obtain⟨h0,_⟩:=hl
  exact ahm _ _ _ h0
 ·cases h
def atC:List D→Option (D×List Prop)
 |[.rc [.ints .u32 xs, .ints .i64 ys, .bools zs], .v (.int .u32 k)]=>some (i64 (atN xs zs k),[xs.length≤200])
 |_=>none
theorem adL (args res l) (h:atC args=some (res,l)) (hl:aI l):CallsD Try.prog 93 args res:=by
 unfold atC at h;split at h
 ·simp only[Option.some.injEq,Prod.mk.injEq] at h
  obtain⟨rfl,rfl⟩:=h;obtain⟨h0,_⟩:=hl
  exact aiK _ _ _ _ h0
 ·cases h
def ceC:List D→Option (D×List Prop)
 |[.rc [.ints .u32 xs, .ints .i64 ys, .bools zs], .v (.int .i64 p), .v (.int .u32 k)]=>some ((.bF [i64 (Gu xs.length ys zs p),bo (RD xs.length xs ys zs p k)]),[xs.length≤200])
 |_=>none
theorem afj (args res l) (h:ceC args=some (res,l)) (hl:aI l):CallsD Try.prog 77 args res:=by
 unfold ceC at h;split at h
 ·simp only[Option.some.injEq,Prod.mk.injEq] at h
  obtain⟨rfl,rfl⟩:=h;obtain⟨h0,_⟩:=hl
  exact ahY _ _ _ _ _ h0
 ·cases h
def X2:aB:=aJ 78 (.call inC) (aJ 88 (.call ixC) (aJ 85 (.call siC) (aJ 32 (.call skC) (aJ 76 (.call ctC) (aJ 93 (.call atC) (aJ 77 (.call ceC) X1))))))
theorem hX2:bG Try.prog X2:=ax adJ (ax afO (ax aeA (ax afV (ax ad5 (ax adL (ax afj hX1))))))
end TableS
end

section
namespace TableS
open Go Go.Dam Go.Proofs
set_option maxRecDepth 1000000
noncomputable def Bo (o:Bool) (k:Nat) (i:Int) (nx:List Int) (us:List Bool) (f:Int) (l:List Int):Cs:=⟨TT.of [(1,D.ptr 32 0),(2,D.v (Value.slice none 0 0)),(3,bo o),(4,D.sl 9001 0 k ⟨1,0⟩),(5,i64 i)],34,[],[(32,BX.cells [ri nx,rb us,i64 f] false),(9001,BX.row [.ints .i64 l] false)],none,0⟩
noncomputable def BD (o:Bool) (k:Nat) (i:Int) (ps nx:List Int) (h t:Int) (l:List Int):Cs:=⟨TT.of [(1,D.ptr 32 0),(2,D.v (Value.slice none 0 0)),(3,bo o),(4,D.sl 9001 0 k ⟨1,0⟩),(5,i64 i)],34,[],[(32,BX.cells [ri ps,ri nx,i64 h,i64 t] false),(9001,BX.row [.ints .i64 l] false)],none,0⟩
noncomputable def uT (r n la i:Int) (k:Nat) (ps nx:List Int) (h t:Int) (ys:List Bool):Cs:=⟨TT.of [(1,D.ptr 32 0),(2,i64 r),(3,i64 n),(4,D.sl 832 0 k ⟨1,0⟩),(5,i64 la),(6,i64 i)],92,[],[(32,BX.cells [ri ps,ri nx,i64 h,i64 t] false),(832,BX.row [.bools ys] false)],none,0⟩
noncomputable def Pn (n:Int) (xs:List Int) (i:Int) (j k:Nat) (ps nx:List Int):Cs:=⟨TT.of [(0,i64 n),(1,ri xs),(4,D.ptr 128 0),(5,D.ptr 160 0),(6,i64 i)],67,[],[(128,BX.cells [.v (.slice none 0 0), .v (.slice none 0 0),i64 0,i64 0] false),(160,BX.cells [D.sl 9001 0 j ⟨1,0⟩,D.sl 9002 0 k ⟨1,0⟩,i64 (-1),i64 (-1)] false),(9001,BX.row [.ints .i64 ps] false),(9002,BX.row [.ints .i64 nx] false)],none,0⟩
noncomputable def o7 (r:Int) (k:Nat) (us0:List Bool) (m i:Int) (xs:List Int) (us:List Bool) (f:Int) (ys:List Bool):Cs:=⟨TT.of [(1,(D.ptr 32 0)),(2,i64 r),(4,(D.sl 832 0 k ⟨1,0⟩)),(53,rb us0),(54,i64 m),(55,i64 i)],77,[],[(32,BX.cells [ri xs,rb us,i64 f] false),(832,BX.row [.bools ys] false)],none,0⟩
noncomputable def qx (r la:Int) (k:Nat) (m i:Int) (ps nx:List Int) (h t:Int) (ys:List Bool):Cs:=⟨TT.of [(1,D.ptr 32 0),(2,i64 r),(5,i64 la),(62,D.sl 832 0 k ⟨1,0⟩),(63,i64 m),(64,i64 i)],92,[],[(32,BX.cells [ri ps,ri nx,i64 h,i64 t] false),(832,BX.row [.bools ys] false)],none,0⟩
noncomputable def Bv (xs:List Int) (i:Int) (j k:Nat) (h t:Int) (ps nx:List Int):Cs:=⟨TT.of [(1,ri xs),(4,D.ptr 128 0),(5,D.ptr 160 0),(7,i64 i)],67,[],[(128,BX.cells [.v (.slice none 0 0), .v (.slice none 0 0),i64 0,i64 0] false),(160,BX.cells [D.sl 9001 0 j ⟨1,0⟩,D.sl 9002 0 k ⟨1,0⟩,i64 h,i64 t] false),(9001,BX.row [.ints .i64 ps] false),(9002,BX.row [.ints .i64 nx] false)],none,0⟩
end TableS
end
