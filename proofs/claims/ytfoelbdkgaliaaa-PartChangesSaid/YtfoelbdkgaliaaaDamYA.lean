/- The engine: an abstract machine for the program's functions, proved right against the model. No condition. -/
import Derived.Test.YtfoelbdkgaliaaaDamXK
set_option linter.unusedSectionVars false
set_option linter.unusedVariables false
set_option linter.unusedSimpArgs false
section
namespace Go.Dam
open Go Go.RowKit Go.ChangeShapes Go.WideShapes
inductive CK where
 |int (k:IntKind)
 |bool
 deriving DecidableEq
def CK.ok:CK→Value→Prop
 | .int k,v=>∃ n,v= .int k n∧(Lit.int k n).wf=true
 | .bool,v=>∃ b,v= .bool b
def Ot (g:TypeId→Option (List CK)):Nat→List Field→Option (List CK)
 |_,[]=>some []
 |off,f::fs=>match g f.type with
  |some ks=>match Ot g (off+ks.length) fs with
   |some r=>if f.offset=off then some (ks ++ r) else none
   |none=>none
  |none=>none
def rX (P:Program):Nat→TypeId→Option (List CK)
 |0,_=>none
 |n+1,t=>match P.underlying t with
  |some .bool=>if 1=P.cellsOf t then some [.bool] else none
  |some (.int k)=>if 1=P.cellsOf t then some [.int k] else none
  |some (.struct fs)=>match Ot (rX P n) 0 fs.toList with
   |some ks=>if ks.length=P.cellsOf t then some ks else none
   |none=>none
  |some (.array len e)=>match rX P n e with
   |some ks=>if len*ks.length=P.cellsOf t then some (List.replicate len ks).flatten else none
   |none=>none
  |_=>none
def Fits:List CK→List Value→Prop
 |[],[]=>True
 |k::ks,v::vs=>k.ok v∧Fits ks vs
 |_,_=>False
theorem Fits.app:∀ {ks:List CK} {cs:List Value} {ks':List CK},Fits ks (cs.take ks.length)→Fits ks' (cs.drop ks.length)→Fits (ks ++ ks') cs
 |[],cs,ks',_,h=>by simpa using h
 |k::ks,[],ks',h,_=>by simp[Fits] at h
 |k::ks,c::cs,ks',h,h'=>by
  simp only[List.length_cons,List.take_succ_cons,Fits,List.drop_succ_cons,List.cons_append] at h h' ⊢
  exact⟨h.1,Fits.app h.2 h'⟩
theorem Fits.length:∀ {ks:List CK} {cs:List Value},Fits ks cs→ks.length=cs.length
 |[],[],_=>rfl
 |[],_::_,h=>by simp[Fits] at h
 |_::_,[],h=>by simp[Fits] at h
 |_::_,_::_,h=>by simp only[Fits] at h;simp[Fits.length h.2]
section
variable {H:Type} {enc:TypeId×Value→H} {P:Program} {w:World} {spare:Nat→Bool}
theorem oV:∀ {n:Nat} {t:TypeId} {ks:List CK},rX P n t=some ks→ks.length=P.cellsOf t
 |0,_,_,h=>by simp[rX] at h
 |n+1,t,ks,h=>by
  unfold rX at h
  split at h
  ·split at h
   next e=>simp at h;subst h;simpa using e
   ·cases h
  ·split at h
   next e=>simp at h;subst h;simpa using e
   ·cases h
  ·split at h
   ·split at h
    next e=>simp at h;subst h;exact e
    ·cases h
   ·cases h
  ·split at h
   ·split at h
    next e=>simp at h;subst h;simpa using e
    ·cases h
   ·cases h
  ·cases h
theorem Gf {g:TypeId→Option (List CK)} {cs:List Value} (hg:∀ t ks,g t=some ks→ks.length=P.cellsOf t):∀ (fs:List Field) (off:Nat) (r:List CK),Ot g off fs=some r→
  (∀ f∈fs,∀ ks,g f.type=some ks→Fits ks ((cs.drop f.offset).take (P.cellsOf f.type)))→cs.length=off+r.length→Fits r (cs.drop off)
 |[],off,r,h,_,hl=>by
  simp[Ot] at h;subst h
  rw[List.drop_of_length_le (by simp at hl;omega)];trivial
 |f::fs,off,r,h,hf,hl=>by
  simp only[Ot] at h
  split at h
  next ks hks=>
   split at h
   next r' hr'=>
    split at h
    next ho=>
     simp at h;subst h
     have h1:=hf f (by simp) ks hks
     rw[←hg _ _ hks,ho] at h1
     refine Fits.app h1 ?_
     rw[List.drop_drop]
     exact Gf hg fs _ r' hr' (fun f' hm=>hf f' (by simp[hm])) (by simp at hl;omega)
    ·cases h
   ·cases h
  ·cases h
theorem Oh {cs:List Value} {ks:List CK}:∀ (len i:Nat),cs.length=(i+len)*ks.length→(∀ j,i≤j→j<i+len→Fits ks ((cs.drop (j*ks.length)).take ks.length))→Fits (List.replicate len ks).flatten (cs.drop (i*ks.length))
 |0,i,hl,_=>by
  rw[List.drop_of_length_le (by simp at hl;omega)];simp[Fits]
 |len+1,i,hl,h=>by
  rw[List.replicate_succ,List.flatten_cons]
  refine Fits.app (h i (Nat.le_refl _) (by omega)) ?_
  rw[List.drop_drop,←Nat.succ_mul]
  exact Oh len (i+1) (by rw[hl];congr 1;omega) fun j h1 h2=>h j (by omega) (by omega)
theorem sW:∀ {n:Nat} {t:TypeId} {ks:List CK} {fuel:Nat} {cs:List Value} {x:DataW H×List MemPlace},rX P n t=some ks→DataW.trod enc P w 0 spare true fuel t cs=some x→Fits ks cs
 |0,_,_,_,_,_,h,_=>by simp[rX] at h
 |n+1,t,ks,fuel,cs,x,h,hx=>by
  unfold rX at h
  split at h
  next hu=>
   split at h
   next e=>
    simp at h;subst h
    obtain⟨b,rfl,_⟩:=DataW.trod_bool hu hx
    exact⟨⟨b,rfl⟩,trivial⟩
   ·cases h
  next k hu=>
   split at h
   next e=>
    simp at h;subst h
    obtain⟨a,rfl,_,hw⟩:=DataW.trod_int hu hx
    exact⟨⟨a,rfl,hw⟩,trivial⟩
   ·cases h
  next fs hu=>
   split at h
   next ks' hks=>
    split at h
    next e=>
     simp at h;subst h
     obtain⟨xs,m,_,_,hl,hlen,hf⟩:=DataW.trod_struct hu hx
     have:=Gf (P:=P) (cs:=cs) (fun t ks h=>oV h) fs.toList 0 ks' hks (fun f hm ks hk=>by
      obtain⟨i,hi⟩:=List.getElem?_of_mem hm
      have hi':fs[i]? =some f:=by simpa using hi
      have h1:=hf i f hi'
      have hlt:i<xs.length:=by rw[hlen];exact(Array.getElem?_eq_some_iff.1 hi').1
      rw[List.getElem?_eq_getElem hlt] at h1
      exact sW hk h1) (by omega)
     simpa using this
    ·cases h
   ·cases h
  next len e hu=>
   split at h
   next ks' hks=>
    split at h
    next he=>
     simp at h;subst h
     obtain⟨xs,m,_,_,hl,hlen,hf⟩:=DataW.trod_array hu hx
     have hc:=oV hks
     have:=Oh (cs:=cs) (ks:=ks') len 0 (by rw[hl,←he];simp) (fun j _ hj=>by
      have h1:=hf j (by omega)
      rw[List.getElem?_eq_getElem (by omega),←hc] at h1
      exact sW hks h1)
     simpa using this
    ·cases h
   ·cases h
  ·cases h
end
def xR:List IntKind→(Nat→Int)→List Value
 |[],_=>[]
 |k::ks,f=> .int k (f 0)::xR ks (fun i=>f (i+1))
theorem Hl:∀ {ks:List IntKind} {vs:List Value},Fits (ks.map CK.int) vs→∃ f:Nat→Int,vs=xR ks f∧∀ i k,ks[i]? =some k→(Lit.int k (f i)).wf=true
 |[],[],_=>⟨fun _=>0,rfl,fun i k h=>by simp at h⟩
 |[],_::_,h=>by simp[Fits] at h
 |_::_,[],h=>by simp[Fits] at h
 |k::ks,v::vs,h=>by
  simp only[List.map_cons,Fits,CK.ok] at h
  obtain⟨⟨n,rfl,hn⟩,h2⟩:=h
  obtain⟨f,rfl,hf⟩:=Hl h2
  refine⟨fun i=>match i with | 0=>n | i+1=>f i,rfl,fun i k' hk=>?_⟩
  cases i with
  |zero=>simp at hk;subst hk;exact hn
  |succ i=>exact hf i k' (by simpa using hk)
theorem open_ints {H:Type} {enc:TypeId×Value→H} {P:Program} {w:World} {spare:Nat→Bool} {n:Nat} {t:TypeId} {ks:List IntKind} {v:Value} {d:DataW H} {ps:List MemPlace} {r:Reach} {b0:Nat}
  (hk:rX P n t=some (ks.map CK.int)) (hs:match P.underlying t with | some (.struct _) | some (.array _ _)=>true | _=>false)
  (hval:Value.okWide P w r b0 t v) (h:DataW.Trod enc P w 0 spare true t v d ps):∃ f:Nat→Int,v= .agg (xR ks f).toArray∧∀ i k,ks[i]? =some k→(Lit.int k (f i)).wf=true:=by
 have hv:∃ cs,v= .agg cs:=by
  unfold Value.okWide at hval
  split at hval
  ·obtain⟨cs,h1,_⟩:=hval;exact⟨cs,h1⟩
  ·obtain⟨cs,h1,_⟩:=hval;exact⟨cs,h1⟩
  next h1 h2=>cases hu:P.underlying t with
   |none=>rw[hu] at hs;cases hs
   |some u=>rw[hu] at hs;cases u<;>first | exact absurd hu (h1 _) | exact absurd hu (h2 _ _) | cases hs
 obtain⟨cs,rfl⟩:=hv
 obtain⟨fuel,hf⟩:=h
 obtain⟨f,hf1,hf2⟩:=Hl (sW hk hf)
 refine⟨f,?_,hf2⟩
 simp only[Value.cells] at hf1
 rw[←hf1]
variable [gB]
theorem oz {w:World} {A:Nat→Prop}:∀ (ks:List IntKind) (f:Nat→Int),dD w A (mkL ks f) (xR ks f)
 |[],_=>by simp[mkL,xR,dD]
 |k::ks,f=>by
  simp only[mkL,xR,dD]
  exact⟨_,_,rfl,rfl,oz ks _⟩
theorem YJ {w:World} {A:Nat→Prop} (ks:List IntKind) (f:Nat→Int):aC w A (.agg (mkL ks f)) (.agg (xR ks f).toArray):=by
 simp only[aC];exact⟨_,rfl,oz ks f⟩
end Go.Dam
end

section
namespace Go.Dam
open Go Go.RowKit
variable [gB]
def mkC:List IntKind→(Nat→List Int)→List Col
 |[],_=>[]
 |k::ks,f=> .ints k (f 0)::mkC ks (fun i=>f (i+1))
end Go.Dam
end

section
namespace Go.Dam
open Go Go.RowKit
variable [gB]
theorem dS {P:Program} {F:FuncId→List D→D→Prop} {b:Code} (T:Nat→Cs) (n:Nat) (ok:Nat→Prop)
  (h:∀ i,i<n→ok i→∀ (σ:St) (e:Ex),Runs P F (.rounds b) (T (i+1)).abs e σ→Runs P F (.rounds b) (T i).abs e σ)
  {σ:St} {e:Ex} (hend:Runs P F (.rounds b) (T n).abs e σ):∀ (d i:Nat),i+d=n→(∀ j,i≤j→j<n→ok j)→Runs P F (.rounds b) (T i).abs e σ
 |0,i,hd,_=>by rw[show i=n by omega];exact hend
 |d+1,i,hd,ha=>h i (by omega) (ha i (Nat.le_refl _) (by omega)) _ _ (dS T n ok h hend d (i+1) (by omega) fun j h1 h2=>ha j (by omega) h2)
theorem jZ {P:Program} {F:FuncId→List D→D→Prop} {b:Code} (T:Nat→Cs) (n:Nat) (ok:Nat→Prop)
  (h:∀ i,i<n→ok i→∀ (σ:St) (e:Ex),Runs P F (.rounds b) (T (i+1)).abs e σ→Runs P F (.rounds b) (T i).abs e σ):∀ (d i:Nat),i+d=n→(∃ j,i≤j∧j<n∧¬ ok j)→
   ∃ j,i≤j∧j<n∧¬ ok j∧(∀ k,i≤k→k<j→ok k)∧∀ (σ:St) (e:Ex),Runs P F (.rounds b) (T j).abs e σ→Runs P F (.rounds b) (T i).abs e σ
 |0,i,hd,⟨j,h1,h2,_⟩=>by omega
 |d+1,i,hd,⟨j,h1,h2,h3⟩=>by
  by_cases c:ok i
  ·have hj:i+1≤j:=by
    rcases Nat.lt_or_ge i j with a | a
    ·exact a
    ·rw[show j=i by omega] at h3;exact absurd c h3
   obtain⟨k,k1,k2,k3,k4,k5⟩:=jZ T n ok h d (i+1) (by omega) ⟨j,hj,h2,h3⟩
   refine⟨k,by omega,k2,k3,fun m m1 m2=>?_,fun σ e r=>h i (by omega) c _ _ (k5 _ _ r)⟩
   rcases Nat.eq_or_lt_of_le m1 with q | q
   ·rw[←q];exact c
   ·exact k4 m q m2
  ·exact⟨i,Nat.le_refl _,by omega,c,fun k a b=>by omega,fun _ _ r=>r⟩
end Go.Dam
end

section
namespace Go.Dam
open Go Go.RowKit Go.ChangeShapes Go.WideShapes
def WA (ks:List IntKind) (w:World) (v:Value) (a:Nat→List Int):Prop:=
 (∀ i j k,i<(a 0).length→ks[j]? =some k→(Lit.int k ((a j).getD i 0)).wf=true)∧
  ∃ o cp,v= .slice o (a 0).length cp∧(a 0).length≤cp∧((a 0).length≠0→∃ ad,o=some ad∧ad.spot=none∧ad.block<w.heap.size)∧
   ∀ i j k,i<(a 0).length→ks[j]? =some k→w.cell? (aG (o.getD default) (i*ks.length+j))=some (.int k ((a j).getD i 0))
section
variable {H:Type} {enc:TypeId×Value→H} {P:Program} {w:World} {spare:Nat→Bool}
end
theorem wf_u32 {n:Int} (h:(Lit.int .u32 n).wf=true):0≤n∧n<4294967296:=by
 simp[Lit.wf,IntKind.has,IntKind.min,IntKind.max,IntKind.signed,IntKind.bits] at h;omega
variable [gB]
theorem TI:∀ {ks:List IntKind} {a:Nat→List Int} {j:Nat} {c:Col},(mkC ks a)[j]? =some c→∃ k,ks[j]? =some k∧c= .ints k (a j)
 |[],_,_,_,h=>by simp[mkC] at h
 |k'::ks,a,0,c,h=>by simp[mkC] at h;subst h;exact⟨k',rfl,rfl⟩
 |k'::ks,a,j+1,c,h=>by
  simp only[mkC,List.getElem?_cons_succ] at h ⊢
  exact TI h
theorem Eb:∀ (ks:List IntKind) (a:Nat→List Int),(mkC ks a).length=ks.length
 |[],_=>rfl
 |k::ks,a=>by simp[mkC,Eb ks]
theorem WA.rep (hg:¬ Live) {k0:IntKind} {ks:List IntKind} {w:World} {v:Value} {a:Nat→List Int} (h:WA (k0::ks) w v a):aC w (fun k=>k<w.heap.size) (.rc (mkC (k0::ks) a)) v:=by
 obtain⟨_,o,cp,rfl,hl,h0,hc⟩:=h
 have e:rowLen (mkC (k0::ks) a)=(a 0).length:=rfl
 simp only[aC]
 refine⟨o,cp,by rw[e],fun q=>absurd q hg,by rw[e];exact hl,by rw[e];exact h0,fun i j c hi hj=>?_⟩
 rw[e] at hi
 obtain⟨k,hk,rfl⟩:=TI hj
 rw[Eb]
 exact⟨_,hc i j k hi hk,rfl⟩
end Go.Dam
end

section
namespace Go.Dam
open Go Go.RowKit
@[reducible] def GL:gB:=⟨fun _=>[],fun k=>Nat.beq k KT⟩
theorem RX {G G':gB} {w:World} {A:Nat→Prop}:∀ (cs:List D) (ad:Addr),(∀ d∈cs,∃ x,d= .v x)→@bC G w A cs ad→@bC G' w A cs ad
 |[],_,_,_=>by simp[bC]
 |d::ds,ad,h,hr=>by
  obtain⟨x,rfl⟩:=h d (by simp)
  simp only[bC] at hr ⊢
  obtain⟨⟨u,h1,h2⟩,h3⟩:=hr
  refine⟨⟨u,h1,?_⟩,RX ds _ (fun d hd=>h d (by simp[hd])) h3⟩
  simp only[aC] at h2 ⊢
  exact h2
theorem lX {G:gB} {P:Program} {f:FuncId} {cols:List aH}
  (h0:∀ cp:Nat,@CallsD G P f [.v (.slice none 0 cp)] (.v (.slice none 0 0)))
  (h1:@CallsD GL P f [.rc (cols.map aH.up)] (.oc cols)):@CallsD G P f [.rc (cols.map aH.up)] (.oc cols):=by
 intro w A vs hv low glo
 simp only[dD] at hv
 obtain⟨u,xs,rfl,hu,rfl⟩:=hv
 simp only[aC] at hu
 obtain⟨o,cp,rfl,hl,hn,hx,hc⟩:=hu
 cases o with
 |none=>
  have hz:rowLen (cols.map aH.up)=0:=by
   by_cases e:rowLen (cols.map aH.up)=0
   ·exact e
   ·obtain⟨ad,h,_⟩:=hx e;cases h
  rw[hz]
  refine(h0 cp w A [_] ⟨_,_,rfl,rfl,rfl⟩ low glo).mono ?_
  rintro e w' ⟨v,A',bl,rfl,hr,_,h2,h3,h4,h5⟩
  simp only[dJ,aC] at hr
  obtain⟨rfl,rfl⟩:=hr
  refine⟨_,A',[none],rfl,?_,⟨fun ad h=>by simp at h,by simp⟩,h2,h3,h4,h5⟩
  rw[eu] at hz
  simp only[dJ]
  refine⟨none,0,by rw[hz], .inl ⟨hz,rfl,?_,trivial⟩⟩
  apply List.length_eq_zero_iff.1
  rw[aS,hz];simp
 |some ad=>
  refine(h1 w A [_] ?_ low ?_).mono ?_
  ·refine⟨_,_,rfl,?_,rfl⟩
   simp only[aC]
   refine⟨some ad,cp,rfl,fun _ h=>absurd h (by simp),hn,hx,fun i j c hi hj=>?_⟩
   obtain⟨x,k1,k2⟩:=hc i j c hi hj
   refine⟨x,k1,?_⟩
   rw[List.getElem?_map,Option.map_eq_some_iff] at hj
   obtain⟨c0,_,rfl⟩:=hj
   cases c0<;>exact k2
  ·intro g hg;exact absurd rfl hg
  ·rintro e w' ⟨v,A',bl,rfl,hr,h1,h2,h3,h4,h5⟩
   refine⟨v,A',bl,rfl,?_,h1,h2,h3,h4,h5⟩
   simp only[dJ] at hr ⊢
   obtain⟨o,c,hu,hr⟩:=hr
   refine⟨o,c,hu,?_⟩
   rcases hr with h | ⟨a1,ad2,a2,a3,a4,a5,a6⟩
   ·exact .inl h
   ·exact .inr ⟨a1,ad2,a2,a3,a4,a5,RX _ _ (fun d hd=>@fA G _ _ hd) a6⟩
end Go.Dam
end

section
namespace Go.Dam
open Go Go.RowKit
variable [gB]
def Jj (b b':List (Option Addr)):Prop:=b'.filterMap id=b.filterMap id
theorem MW.some {w:World} {A:Nat→Prop} {B:Nat} {b b':List (Option Addr)} (h:MW w A B b) (e:Jj b b'):MW w A B b' where
 each:=fun ad hm=>h.each ad (by
  have:ad∈b'.filterMap id:=List.mem_filterMap.2 ⟨_,hm,rfl⟩
  rw[e] at this
  obtain⟨x,h1,h2⟩:=List.mem_filterMap.1 this
  simp only[id] at h2;subst h2;exact h1)
 apart:=by
  have key:∀ l:List (Option Addr),l.Pairwise (fun x y=>∀ a b,x=Option.some a→y=Option.some b→a.block≠b.block)↔(l.filterMap id).Pairwise fun a b:Addr=>a.block≠b.block:=fun l=>by
   rw[List.pairwise_filterMap]
   constructor
   ·intro h;exact h.imp fun h a ha b hb=>h a b ha hb
   ·intro h;exact h.imp fun h a b ha hb=>h a ha b hb
  rw[key,e,←key];exact h.apart
def kV (d d':D):Prop:=∀ (w:World) (A:Nat→Prop) (u:Value) (bl:List (Option Addr)),dJ w A d u bl→∃ bl',dJ w A d' u bl'∧Jj bl bl'
theorem kV.refl (d:D):kV d d:=fun _ _ _ bl h=>⟨bl,h,rfl⟩
theorem kV.nil {cols:List aH} (h:ah cols=0):kV (.v (.slice none 0 0)) (.oc cols):=fun w A u bl hr=>by
 simp only[dJ,aC] at hr
 obtain⟨rfl,rfl⟩:=hr
 refine⟨[none],?_,rfl⟩
 simp only[dJ]
 refine⟨none,0,by rw[h], .inl ⟨h,rfl,?_,trivial⟩⟩
 apply List.length_eq_zero_iff.1
 rw[aS,h];simp
inductive bM:List D→List D→Prop
 |nil:bM [] []
 |cons {d e:D} {ds es:List D}:kV d e→bM ds es→bM (d::ds) (e::es)
theorem bM.refl:∀ ds:List D,bM ds ds
 |[]=> .nil
 |d::ds=> .cons (.refl d) (bM.refl ds)
theorem bM.DN {ds es:List D} (h:bM ds es):∀ {w:World} {A:Nat→Prop} {vs:List Value} {bl:List (Option Addr)},iG w A ds vs bl→∃ bl',iG w A es vs bl'∧Jj bl bl':=by
 induction h with
 |nil=>intro w A vs bl h;exact⟨bl,h,rfl⟩
 |cons h _ ih=>
  intro w A vs bl hr
  simp only[iG] at hr ⊢
  obtain⟨x,xs,b1,b2,rfl,rfl,h1,h2⟩:=hr
  obtain⟨c1,k1,e1⟩:=h w A x b1 h1
  obtain⟨c2,k2,e2⟩:=ih h2
  refine⟨c1 ++ c2,⟨x,xs,c1,c2,rfl,rfl,k1,k2⟩,?_⟩
  unfold Jj at *
  rw[List.filterMap_append,List.filterMap_append,e1,e2]
theorem bM.agg {ds es:List D} (h:bM ds es):kV (.agg ds) (.agg es):=fun w A u bl hr=>by
 simp only[dJ] at hr ⊢
 obtain⟨vs,rfl,hr⟩:=hr
 obtain⟨bl',k,e⟩:=h.DN hr
 exact⟨bl',⟨vs,rfl,k⟩,e⟩
theorem bM.bF {ds es:List D} (h:bM ds es):kV (.bF ds) (.bF es):=fun w A u bl hr=>by
 simp only[dJ] at hr ⊢
 obtain⟨vs,rfl,hr⟩:=hr
 obtain⟨bl',k,e⟩:=h.DN hr
 exact⟨bl',⟨vs,rfl,k⟩,e⟩
theorem bH {P:Program} {f:FuncId} {args:List D} {e e':D} (h:kV e e') (k:CallsD P f args e):CallsD P f args e':=fun w A vs hv low glo=>by
 refine(k w A vs hv low glo).mono ?_
 rintro r w' ⟨v,A',bl,rfl,hr,h1,h2,h3,h4,h5⟩
 obtain⟨bl',k1,k2⟩:=h w' A' v bl hr
 exact⟨v,A',bl',rfl,k1,h1.some k2,h2,h3,h4,h5⟩
end Go.Dam
end

section
namespace Go.Dam
open Go
variable [gB]
inductive Tr (α:Type) where
 |lf (x:α)
 |s (c:Prop) (t:Tr α)
 |k (c:Prop) (h:c) (t:Tr α)
 |d (b:Bool) (t:b=true→Tr α) (f:b=false→Tr α)
 |p (e:PE) (t:Tr α)
@[reducible] def Tr.q {α β:Type} (a:β) (t:Tr α):Tr α:= .k (a=a) rfl t
def Leaves {α:Type} (E:List PE→Option (α×List Prop)):Tr α→List PE→List Prop→Prop
 | .lf x,l,cs=>E l.reverse=some (x,cs)
 | .s c t,l,cs=>Leaves E t l (c::cs)
 | .k c _ t,l,cs=>Leaves E t l (c::cs)
 | .d b t f,l,cs=>(∀ e,Leaves E (t e) (.d true::l) ((b=true)::cs))∧∀ e,Leaves E (f e) (.d false::l) ((b=false)::cs)
 | .p e t,l,cs=>Leaves E t (e::l) cs
def At {α:Type} (G:α→Prop):Tr α→List Bool→Prop→Prop
 | .lf x,_,S=>S∧G x
 | .s c t,q,S=>At G t q (c∧S)
 | .k _ _ t,q,S=>At G t q S
 | .d b t _,true::q,S=>∀ e:b=true,At G (t e) q S
 | .d b _ f,false::q,S=>∀ e:b=false,At G (f e) q S
 | .d _ _ _,[],_=>False
 | .p _ t,q,S=>At G t q S
def Goals {α:Type} (G:α→Prop):Tr α→Prop→Prop
 | .lf x,S=>S∧G x
 | .s c t,S=>Goals G t (c∧S)
 | .k _ _ t,S=>Goals G t S
 | .d _ t f,S=>(∀ e,Goals G (t e) S)∧∀ e,Goals G (f e) S
 | .p _ t,S=>Goals G t S
theorem jy {α:Type} {E:List PE→Option (α×List Prop)} {G:α→Prop}:∀ (t:Tr α) (l:List PE) (cs:List Prop) (S:Prop),Leaves E t l cs→Goals G t S→(S→aI cs)→∃ l' x cs',E l'=some (x,cs')∧aI cs'∧G x
 | .lf x,l,cs,S,hl,hg,hs=>⟨_,x,cs,hl,hs hg.1,hg.2⟩
 | .s c t,l,cs,S,hl,hg,hs=>jy t l (c::cs) (c∧S) hl hg fun h=>⟨h.1,hs h.2⟩
 | .k c h t,l,cs,S,hl,hg,hs=>jy t l (c::cs) S hl hg fun g=>⟨h,hs g⟩
 | .d true t f,l,cs,S,hl,hg,hs=>jy (t rfl) _ _ S (hl.1 rfl) (hg.1 rfl) fun g=>⟨rfl,hs g⟩
 | .d false t f,l,cs,S,hl,hg,hs=>jy (f rfl) _ _ S (hl.2 rfl) (hg.2 rfl) fun g=>⟨rfl,hs g⟩
 | .p e t,l,cs,S,hl,hg,hs=>jy t (e::l) cs S hl hg hs
theorem au {P:Program} {X:aB} (hX:bG P X) {fuel:Nat} {f:FuncId} {args:List D} {res:D} {t:Tr D}
  (h:Leaves (fun l=>cu P X fuel l f args) t [] []) (g:Goals (fun r=>res=r) t True):CallsD P f args res:=by
 obtain⟨l,x,cs,h1,h2,h3⟩:=jy t [] [] True h g fun _=>trivial
 exact aV hX h1 h2 h3
def RG (P:Program) (b:Code) (e:Ex) (σ:St):Ex×Cs→Prop
 |(.normal,c)=>Runs P (CallsD P) (.rounds b) c.abs e σ
 |(x,c)=>e=x∧σ=c.abs
noncomputable def bT (P:Program) (X:aB) (fuel:Nat) (b:Code) (keep:List (List Nat)) (ren:List (Nat×Nat)) (c:Cs) (l:List PE):Option ((Ex×Cs)×List Prop):=
 match fG P X fuel b l keep ren c with
 |some (e,c1,cs)=>some ((e,c1),cs)
 |none=>none
theorem aO {P:Program} {X:aB} (hX:bG P X) {fuel:Nat} {b:Code} {keep:List (List Nat)} {ren:List (Nat×Nat)} {c:Cs} {σ:St} {e:Ex} {t:Tr (Ex×Cs)}
  (h:Leaves (bT P X fuel b keep ren c) t [] []) (g:Goals (RG P b e σ) t True):Runs P (CallsD P) (.rounds b) c.abs e σ:=by
 obtain⟨l,⟨x,c1⟩,cs,h1,h2,h3⟩:=jy t [] [] True h g fun _=>trivial
 unfold bT at h1
 split at h1
 next e1 c2 cs' h4=>
  simp only[Option.some.injEq,Prod.mk.injEq] at h1
  obtain⟨⟨rfl,rfl⟩,rfl⟩:=h1
  by_cases n:e1= .normal
  ·subst n;exact iI hX h4 h2 h3
  ·have:e=e1∧σ=c2.abs:=by
    unfold RG at h3
    split at h3
    next heq=>simp only[Prod.mk.injEq] at heq;exact absurd heq.1 n
    next heq=>simp only[Prod.mk.injEq] at heq;obtain⟨rfl,rfl⟩:=heq;exact h3
   exact iW hX h4 h2 n this
 ·cases h1
end Go.Dam
end

section
namespace Go.Dam
open Go Go.RowKit Go.ChangeShapes Go.WideShapes
inductive FK where
 |one (c:CK)
 |row (ks:List CK)
def cOK:CK→Col→Nat→Prop
 | .int k, .ints k' xs,n=>k'=k∧xs.length=n∧∀ i,i<n→(Lit.int k (xs.getD i 0)).wf=true
 | .bool, .bools bs,n=>bs.length=n
 |_,_,_=>False
def qK (n:Nat):List CK→List Col→Prop
 |[],[]=>True
 |k::ks,c::cs=>cOK k c n∧qK n ks cs
 |_,_=>False
def XC (w:World) (cs:List Col) (n:Nat) (u:Value):Prop:=
 ∃ o cp,u= .slice o n cp∧n≤cp∧(n≠0→∃ ad,o=some ad∧ad.spot=none∧ad.block<w.heap.size)∧
  ∀ i j c,i<n→cs[j]? =some c→w.cell? (aG (o.getD default) (i*cs.length+j))=some (match c with | .ints k xs=> .int k (xs.getD i 0) | .bools bs=> .bool (bs.getD i false) | .rows _ _=> .int .i64 0)
def FK.ok (w:World):FK→Value→Prop
 | .one c,v=>c.ok v
 | .row ks,v=>∃ cols n,qK n ks cols∧XC w cols n v
def ig (w:World):List FK→List Value→Prop
 |[],[]=>True
 |k::ks,v::vs=>k.ok w v∧ig w ks vs
 |_,_=>False
theorem ig.app {w:World}:∀ {ks:List FK} {cs:List Value} {ks':List FK},ig w ks (cs.take ks.length)→ig w ks' (cs.drop ks.length)→ig w (ks ++ ks') cs
 |[],cs,ks',_,h=>by simpa using h
 |k::ks,[],ks',h,_=>by simp[ig] at h
 |k::ks,c::cs,ks',h,h'=>by
  simp only[List.length_cons,List.take_succ_cons,ig,List.drop_succ_cons,List.cons_append] at h h' ⊢
  exact⟨h.1,ig.app h.2 h'⟩
def Oo (g:TypeId→Option (List FK)):Nat→List Field→Option (List FK)
 |_,[]=>some []
 |off,f::fs=>match g f.type with
  |some ks=>match Oo g (off+ks.length) fs with
   |some r=>if f.offset=off then some (ks ++ r) else none
   |none=>none
  |none=>none
def yB (P:Program):Nat→TypeId→Option (List FK)
 |0,_=>none
 |n+1,t=>match P.underlying t with
  |some .bool=>if 1=P.cellsOf t then some [.one .bool] else none
  |some (.int k)=>if 1=P.cellsOf t then some [.one (.int k)] else none
  |some (.slice e)=>if 1=P.cellsOf t then(match rX P n e with | some (k::ks)=>some [.row (k::ks)] | _=>none) else none
  |some (.struct fs)=>match Oo (yB P n) 0 fs.toList with
   |some ks=>if ks.length=P.cellsOf t then some ks else none
   |none=>none
  |some (.array len e)=>match yB P n e with
   |some ks=>if len*ks.length=P.cellsOf t then some (List.replicate len ks).flatten else none
   |none=>none
  |_=>none
def intOf:Value→Int
 | .int _ n=>n
 |_=>0
def Xx:Value→Bool
 | .bool b=>b
 |_=>false
def S9 (n:Nat) (V:Nat→Value):CK→Col
 | .int k=> .ints k ((List.range n).map fun i=>intOf (V i))
 | .bool=> .bools ((List.range n).map fun i=>Xx (V i))
def nJ (n:Nat):List CK→(Nat→Nat→Value)→List Col
 |[],_=>[]
 |k::ks,V=>S9 n (fun i=>V i 0) k::nJ n ks fun i j=>V i (j+1)
theorem nP (n:Nat):∀ (ks:List CK) (V:Nat→Nat→Value),(nJ n ks V).length=ks.length
 |[],_=>rfl
 |_::ks,V=>by simp[nJ,nP n ks]
theorem getD_map (n:Nat) {α:Type} (f:Nat→α) (i:Nat) (z:α) (h:i<n):((List.range n).map f).getD i z=f i:=by
 simp[List.getD_eq_getElem?_getD,List.getElem?_range h]
theorem zk {n:Nat}:∀ {ks:List CK} {V:Nat→Nat→Value},(∀ (i j:Nat) (k:CK),i<n→ks[j]? =some k→k.ok (V i j))→qK n ks (nJ n ks V)
 |[],_,_=>trivial
 |k::ks,V,h=>by
  refine⟨?_,zk fun i j k' hi hj=>h i (j+1) k' hi (by simpa using hj)⟩
  cases k with
  |bool=>simp[S9,cOK]
  |int k=>
   refine⟨rfl,by simp,fun i hi=>?_⟩
   obtain⟨m,e,hw⟩:=h i 0 (.int k) hi rfl
   rw[getD_map n _ i 0 hi]
   show(Lit.int k (intOf (V i 0))).wf=true
   rw[e];exact hw
theorem I7 {n:Nat}:∀ {ks:List CK} {V:Nat→Nat→Value} {j:Nat} {c:Col} {i:Nat},(∀ (i j:Nat) (k:CK),i<n→ks[j]? =some k→k.ok (V i j))→i<n→(nJ n ks V)[j]? =some c→
  V i j=(match c with | .ints k xs=> .int k (xs.getD i 0) | .bools bs=> .bool (bs.getD i false) | .rows _ _=> .int .i64 0)
 |[],_,_,_,_,_,_,h=>by simp[nJ] at h
 |k::ks,V,0,c,i,h,hi,hc=>by
  simp[nJ] at hc;subst hc
  cases k with
  |int k=>
   obtain⟨m,e,hw⟩:=h i 0 (.int k) hi rfl
   simp only[S9]
   rw[getD_map n _ i 0 hi]
   show V i 0= .int k (intOf (V i 0))
   rw[e];rfl
  |bool=>
   obtain⟨b,e⟩:=h i 0 .bool hi rfl
   simp only[S9]
   rw[getD_map n _ i false hi]
   show V i 0= .bool (Xx (V i 0))
   rw[e];rfl
 |k::ks,V,j+1,c,i,h,hi,hc=>by
  simp only[nJ,List.getElem?_cons_succ] at hc
  exact I7 (V:=fun i j=>V i (j+1)) (fun i j k' hi hj=>h i (j+1) k' hi (by simpa using hj)) hi hc
theorem Fits.get:∀ {ks:List CK} {vs:List Value} {j:Nat} {k:CK},Fits ks vs→ks[j]? =some k→∃ v,vs[j]? =some v∧k.ok v
 |[],_,_,_,_,h=>by simp at h
 |_::_,[],_,_,h,_=>by simp[Fits] at h
 |k::ks,v::vs,0,k',h,hj=>by simp at hj;subst hj;exact⟨v,rfl,h.1⟩
 |k::ks,v::vs,j+1,k',h,hj=>by
  simp only[List.getElem?_cons_succ] at hj ⊢
  exact Fits.get h.2 hj
section
variable {H:Type} {enc:TypeId×Value→H} {P:Program} {w:World} {spare:Nat→Bool}
theorem WR {t e:TypeId} {n:Nat} {k0:CK} {ks:List CK} {fuel:Nat} {cs:List Value} {x:DataW H×List MemPlace} (ht:P.underlying t=some (.slice e)) (hk:rX P n e=some (k0::ks))
  (hf:DataW.trod enc P w 0 spare true fuel t cs=some x):∃ v,cs=[v]∧(FK.row (k0::ks)).ok w v:=by
 have hc:(k0::ks).length=P.cellsOf e:=oV hk
 rcases Go.Deep.open_slice ht hf with⟨rfl,_⟩ | ⟨a,l0,cap,m,n',Dx,Pl,rfl,_,hl,hm,hmm,_,hx⟩
 ·refine⟨_,rfl,nJ 0 (k0::ks) fun _ _=> .int .i64 0,0,zk fun i j k hi _=>by omega,none,0,rfl,by simp,by simp,fun i j c hi _=>by omega⟩
 ·have hlm:l0≤m:=by rw[hmm];split<;>omega
  have each:∀ i,i<l0→∃ f:Nat→Value,(∀ (j:Nat) (k:CK),(k0::ks)[j]? =some k→w.cell? ((a.add (i*(k0::ks).length)).add j)=some (f j))∧∀ (j:Nat) (k:CK),(k0::ks)[j]? =some k→k.ok (f j):=fun i hi=>by
   obtain⟨cs',h1,h2⟩:=hx i (by omega)
   rw[←hc] at h1
   obtain⟨_,hlen,hcell⟩:=World.cells?_some h1
   have hfit:=sW hk h2
   refine⟨fun j=>cs'.getD j (.int .i64 0),fun j k hj=>?_,fun j k hj=>?_⟩
   ·have hjl:j<(k0::ks).length:=(List.getElem?_eq_some_iff.1 hj).1
    obtain⟨v,hv,_⟩:=hfit.get hj
    rw[hcell j hjl,hv]
    show some v=some (cs'.getD j (.int .i64 0))
    rw[List.getD_eq_getElem?_getD,hv];rfl
   ·obtain⟨v,hv,ho⟩:=hfit.get hj
    show k.ok (cs'.getD j (.int .i64 0))
    rw[List.getD_eq_getElem?_getD,hv];exact ho
  have hch:∃ f:Nat→Nat→Value,∀ i,i<l0→(∀ (j:Nat) (k:CK),(k0::ks)[j]? =some k→w.cell? ((a.add (i*(k0::ks).length)).add j)=some (f i j))∧∀ (j:Nat) (k:CK),(k0::ks)[j]? =some k→k.ok (f i j):=by
   refine⟨fun i=>if h:i<l0 then Classical.choose (each i h) else fun _=> .int .i64 0,fun i hi=>?_⟩
   simp only[dif_pos hi]
   exact Classical.choose_spec (each i hi)
  obtain⟨f,hfx⟩:=hch
  have spot:l0≠0→a.spot=none∧a.block<w.heap.size:=fun h0=>by
   have:=(hfx 0 (by omega)).1 0 k0 rfl
   rw[Nat.zero_mul,show(a.add 0).add 0=a from rfl] at this
   unfold World.cell? at this
   split at this
   next c _ _ hb=>
    refine⟨?_,?_⟩
    ·cases hs:a.spot with
     |none=>rfl
     |some x=>rw[hs] at this;simp at this
    ·rcases Nat.lt_or_ge a.block w.heap.size with h | h
     ·exact h
     ·rw[Array.getElem?_eq_none h] at hb;cases hb
   ·cases this
  have hok:∀ (i j:Nat) (k:CK),i<l0→(k0::ks)[j]? =some k→k.ok (f i j):=fun i j k hi hj=>(hfx i hi).2 j k hj
  refine⟨_,rfl,nJ l0 (k0::ks) f,l0,zk hok,some a,cap,rfl,hl,fun h0=>⟨a,rfl,(spot h0).1,(spot h0).2⟩,fun i j c hi hj=>?_⟩
  have hs:=(spot (by omega)).1
  have hjl:j<(k0::ks).length:=by
   have:=(List.getElem?_eq_some_iff.1 hj).1
   rwa[nP] at this
  obtain⟨k,hk⟩:∃ k,(k0::ks)[j]? =some k:=⟨_,List.getElem?_eq_getElem hjl⟩
  have hthis:=(hfx i hi).1 j k hk
  rw[I7 hok hi hj] at hthis
  letI:gB:=⟨fun _=>[],fun _=>false⟩
  rw[LP a _ hs,LP _ _ (by rfl),dh] at hthis
  rw[nP]
  exact hthis
theorem Ep {g:TypeId→Option (List FK)} {cs:List Value} (hg:∀ t ks,g t=some ks→ks.length=P.cellsOf t):∀ (fs:List Field) (off:Nat) (r:List FK),Oo g off fs=some r→
  (∀ f∈fs,∀ ks,g f.type=some ks→ig w ks ((cs.drop f.offset).take (P.cellsOf f.type)))→cs.length=off+r.length→ig w r (cs.drop off)
 |[],off,r,h,_,hl=>by
  simp[Oo] at h;subst h
  rw[List.drop_of_length_le (by simp at hl;omega)];trivial
 |f::fs,off,r,h,hf,hl=>by
  simp only[Oo] at h
  split at h
  next ks hks=>
   split at h
   next r' hr'=>
    split at h
    next ho=>
     simp at h;subst h
     have h1:=hf f (by simp) ks hks
     rw[←hg _ _ hks,ho] at h1
     refine ig.app h1 ?_
     rw[List.drop_drop]
     exact Ep hg fs _ r' hr' (fun f' hm=>hf f' (by simp[hm])) (by simp at hl;omega)
    ·cases h
   ·cases h
  ·cases h
theorem xP:∀ {n:Nat} {t:TypeId} {ks:List FK},yB P n t=some ks→ks.length=P.cellsOf t
 |0,_,_,h=>by simp[yB] at h
 |n+1,t,ks,h=>by
  unfold yB at h
  split at h
  ·split at h
   next e=>simp at h;subst h;simpa using e
   ·cases h
  ·split at h
   next e=>simp at h;subst h;simpa using e
   ·cases h
  ·split at h
   next e=>
    split at h
    ·simp at h;subst h;simpa using e
    ·cases h
   ·cases h
  ·split at h
   ·split at h
    next e=>simp at h;subst h;exact e
    ·cases h
   ·cases h
  ·split at h
   ·split at h
    next e=>simp at h;subst h;simpa using e
    ·cases h
   ·cases h
  ·cases h
theorem Ho {cs:List Value} {ks:List FK}:∀ (len i:Nat),cs.length=(i+len)*ks.length→(∀ j,i≤j→j<i+len→ig w ks ((cs.drop (j*ks.length)).take ks.length))→ig w (List.replicate len ks).flatten (cs.drop (i*ks.length))
 |0,i,hl,_=>by
  rw[List.drop_of_length_le (by simp at hl;omega)];simp[ig]
 |len+1,i,hl,h=>by
  rw[List.replicate_succ,List.flatten_cons]
  refine ig.app (h i (Nat.le_refl _) (by omega)) ?_
  rw[List.drop_drop,←Nat.succ_mul]
  exact Ho len (i+1) (by rw[hl];congr 1;omega) fun j h1 h2=>h j (by omega) (by omega)
theorem wH:∀ {n:Nat} {t:TypeId} {ks:List FK} {fuel:Nat} {cs:List Value} {x:DataW H×List MemPlace},yB P n t=some ks→DataW.trod enc P w 0 spare true fuel t cs=some x→ig w ks cs
 |0,_,_,_,_,_,h,_=>by simp[yB] at h
 |n+1,t,ks,fuel,cs,x,h,hx=>by
  unfold yB at h
  split at h
  next hu=>
   split at h
   next e=>
    simp at h;subst h
    obtain⟨b,rfl,_⟩:=DataW.trod_bool hu hx
    exact⟨⟨b,rfl⟩,trivial⟩
   ·cases h
  next k hu=>
   split at h
   next e=>
    simp at h;subst h
    obtain⟨a,rfl,_,hw⟩:=DataW.trod_int hu hx
    exact⟨⟨a,rfl,hw⟩,trivial⟩
   ·cases h
  next e hu=>
   split at h
   next e1=>
    split at h
    next k0 ks' hks=>
     simp at h;subst h
     obtain⟨v,rfl,hv⟩:=WR hu hks hx
     exact⟨hv,trivial⟩
    ·cases h
   ·cases h
  next fs hu=>
   split at h
   next ks' hks=>
    split at h
    next e=>
     simp at h;subst h
     obtain⟨xs,m,_,_,hl,hlen,hf⟩:=DataW.trod_struct hu hx
     have:=Ep (P:=P) (w:=w) (cs:=cs) (fun t ks h=>xP h) fs.toList 0 ks' hks (fun f hm ks hk=>by
      obtain⟨i,hi⟩:=List.getElem?_of_mem hm
      have hi':fs[i]? =some f:=by simpa using hi
      have h1:=hf i f hi'
      have hlt:i<xs.length:=by rw[hlen];exact(Array.getElem?_eq_some_iff.1 hi').1
      rw[List.getElem?_eq_getElem hlt] at h1
      exact wH hk h1) (by omega)
     simpa using this
    ·cases h
   ·cases h
  next len e hu=>
   split at h
   next ks' hks=>
    split at h
    next he=>
     simp at h;subst h
     obtain⟨xs,m,_,_,hl,hlen,hf⟩:=DataW.trod_array hu hx
     have hc:=xP hks
     have:=Ho (w:=w) (cs:=cs) (ks:=ks') len 0 (by rw[hl,←he];simp) (fun j _ hj=>by
      have h1:=hf j (by omega)
      rw[List.getElem?_eq_getElem (by omega),←hc] at h1
      exact wH hks h1)
     simpa using this
    ·cases h
   ·cases h
  ·cases h
theorem UU {n:Nat} {t:TypeId} {ks:List FK} {v:Value} {d:DataW H} {ps:List MemPlace} {r:Reach} {b0:Nat}
  (hk:yB P n t=some ks) (hs:match P.underlying t with | some (.struct _) | some (.array _ _)=>true | _=>false)
  (hval:Value.okWide P w r b0 t v) (h:DataW.Trod enc P w 0 spare true t v d ps):∃ vs:List Value,v= .agg vs.toArray∧ig w ks vs:=by
 have hv:∃ cs,v= .agg cs:=by
  unfold Value.okWide at hval
  split at hval
  ·obtain⟨cs,h1,_⟩:=hval;exact⟨cs,h1⟩
  ·obtain⟨cs,h1,_⟩:=hval;exact⟨cs,h1⟩
  next h1 h2=>cases hu:P.underlying t with
   |none=>rw[hu] at hs;cases hs
   |some u=>rw[hu] at hs;cases u<;>first | exact absurd hu (h1 _) | exact absurd hu (h2 _ _) | cases hs
 obtain⟨cs,rfl⟩:=hv
 obtain⟨fuel,hf⟩:=h
 have:=wH hk hf
 simp only[Value.cells] at this
 exact⟨cs.toList,by simp,this⟩
end
variable [gB]
theorem XC.rep (hg:¬ Live) {w:World} {cs:List Col} {n:Nat} {u:Value} (hn:rowLen cs=n) (hr:∀ c∈cs,∀ m f,c≠ .rows m f) (h:XC w cs n u):aC w (fun k=>k<w.heap.size) (.rc cs) u:=by
 obtain⟨o,cp,rfl,hl,h0,hc⟩:=h
 subst hn
 simp only[aC]
 refine⟨o,cp,rfl,fun q=>absurd q hg,hl,h0,fun i j c hi hj=>?_⟩
 refine⟨_,hc i j c hi hj,?_⟩
 have:=hr c (List.mem_of_getElem? hj)
 cases c with
 |ints k xs=>rfl
 |bools bs=>rfl
 |rows m f=>exact absurd rfl (this m f)
theorem iC {n:Nat} {k:IntKind} {ks:List CK} {cols:List Col} (h:qK n (.int k::ks) cols):∃ xs cs,cols= .ints k xs::cs∧xs.length=n∧(∀ i,i<n→(Lit.int k (xs.getD i 0)).wf=true)∧qK n ks cs:=by
 cases cols with
 |nil=>cases h
 |cons c cs=>
  obtain⟨a,b⟩:=h
  cases c with
  |ints k' xs=>obtain⟨rfl,e,w⟩:=a;exact⟨xs,cs,rfl,e,w,b⟩
  |bools _=>cases a
  |rows _ _=>cases a
theorem AX {n:Nat} {ks:List CK} {cols:List Col} (h:qK n (.bool::ks) cols):∃ xs cs,cols= .bools xs::cs∧xs.length=n∧qK n ks cs:=by
 cases cols with
 |nil=>cases h
 |cons c cs=>
  obtain⟨a,b⟩:=h
  cases c with
  |bools xs=>exact⟨xs,cs,rfl,a,b⟩
  |ints _ _=>cases a
  |rows _ _=>cases a
theorem pY {n:Nat} {cols:List Col} (h:qK n [] cols):cols=[]:=by
 cases cols with
 |nil=>rfl
 |cons=>cases h
end Go.Dam
end
