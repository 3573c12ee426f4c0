/- The engine: an abstract machine for the program's functions, proved right against the model. No condition. -/
import Derived.Test.YtfoelbdkgaliaaaDamAB
import Derived.RangeFuncIn
set_option linter.unusedSectionVars false
set_option linter.unusedVariables false
set_option linter.unusedSimpArgs false
section
namespace Go.Dam
open Go Go.RowKit
variable [gB]
section
variable {P:Program} {F:FuncId→List D→D→Prop} {R:Array Oper} {O:Oper→St→St→Prop} {p:Plan}
inductive OY (R:Array Oper):Nat→Nat→Prop
 |edge {k:Nat} {o:Oper} {e:Edge}:R[k]? =some o→e∈o.after→Region.binds .any e=true→OY R e.on k
 |trans {i k:Nat} {o:Oper} {e:Edge}:R[k]? =some o→e∈o.after→Region.binds .any e=true→OY R i e.on→OY R i k
structure mJ (P:Program) (R:Array Oper) (p:Plan):Prop where
 low:∀ k o,R[k]? =some o→∀ e∈o.after,Region.binds .any e=true→e.on<k
 pairs:∀ i j oi oj,i<j→R[i]? =some oi→R[j]? =some oj→OY R i j∨DR P R p i j oi oj=true
 dis:∀ i j,i≠j→∀ id,id∈p.zs i→id∉p.zs j
 later:∀ k l,l≠k→¬ OY R l k→p.W k l=true
 grow:∀ i j oi,i≠j→R[i]? =some oi→j<R.size→¬ OY R i j→¬ OY R j i→p.Gr j=true→kindOf P oi.op=0∨j∈p.S i
theorem mJ.lt {p:Plan} (ok:mJ P R p) {i k:Nat} (h:OY R i k):i<k:=by
 induction h with
 |edge h1 h2 h3=>exact ok.low _ _ h1 _ h2 h3
 |trans h1 h2 h3 _ ih=>exact Nat.lt_trans ih (ok.low _ _ h1 _ h2 h3)
def Cl (R:Array Oper) (listed:Array Bool):Prop:=∀ k o,R[k]? =some o→listed.getD k false=true→∀ e∈o.after,Region.binds .any e=true→listed.getD e.on false=true
theorem PS {listed:Array Bool} (hc:Cl R listed) {i k:Nat} (h:OY R i k):listed.getD k false=true→listed.getD i false=true:=by
 induction h with
 |edge h1 h2 h3=>intro hk;exact hc _ _ h1 hk _ h2 h3
 |trans h1 h2 h3 _ ih=>intro hk;exact ih (hc _ _ h1 hk _ h2 h3)
theorem IA {listed:Array Bool} (hc:Cl R listed) {i j:Nat} (h:OY R i j) (hj:j∈Region.ready .any R listed):listed.getD i false=true:=by
 obtain⟨_,o,ho,hall⟩:=mem_ready.1 hj
 cases h with
 |edge h1 h2 h3=>rw[ho] at h1;cases h1;exact hall _ h2 h3
 |trans h1 h2 h3 h4=>rw[ho] at h1;cases h1;exact PS hc h4 (hall _ h2 h3)
theorem xq {l:Array Bool} {i:Nat} (h:l.getD i true=false):l.getD i false=false:=by
 rcases Nat.lt_or_ge i l.size with h' | h'
 ·simpa [h'] using h
 ·simp[Array.getElem?_eq_none h']
theorem getD_lt {l:Array Bool} {i:Nat} (h:l.getD i true=false):i<l.size:=by
 rcases Nat.lt_or_ge i l.size with h' | h'
 ·exact h'
 ·simp[Array.getElem?_eq_none h'] at h
theorem jl {l:Array Bool} {i:Nat} (h:i<l.size) (d:Bool):(l.setIfInBounds i true).getD i d=true:=by
 simp[h]
theorem ZM {listed:Array Bool} (hc:Cl R listed) {i:Nat} (hi:i∈Region.ready .any R listed):Cl R (listed.setIfInBounds i true):=by
 intro k o hk hl e he hb
 by_cases hik:i=k
 ·subst hik
  obtain⟨_,o',ho,hall⟩:=mem_ready.1 hi
  rw[ho] at hk;cases hk
  exact getD_set_true (hall e he hb)
 ·rw[getD_set_ne false hik] at hl
  exact getD_set_true (hc k o hk hl e he hb)
theorem wV {listed:Array Bool} {i k:Nat} (h:(listed.setIfInBounds i true).getD k true=false):k≠i∧listed.getD k true=false:=by
 by_cases e:i=k
 ·subst e
  have hlt:=getD_lt h
  simp only[Array.size_setIfInBounds] at hlt
  rw[jl hlt] at h;cases h
 ·rw[getD_set_ne true e] at h;exact⟨Ne.symm e,h⟩
theorem Hq (ok:mJ P R p) {listed:Array Bool} {i:Nat} {oi:Oper} {σ σ1:St} (hc:Cl R listed) (hi:i∈Region.ready .any R listed) (h:fC P F O R p i oi σ σ1) (hinv:Inv p listed σ):Inv p (listed.setIfInBounds i true) σ1:=by
 intro k hk id hid
 obtain⟨hne,hun⟩:=wV hk
 have hu:=hinv k hun id hid
 have hW:p.W i k=true:=ok.later i k hne (fun ha=>by have:=IA hc ha hi;rw[xq hun] at this;cases this)
 cases h with
 |skip _=>exact qP hu rfl (fun cs h=>by cases h) (fun i cs h=>by cases h)
 |op _ _ hm _ hd hcs _ _=>
  refine qP hu (hd k hW id hid) (fun cs hn=>ok.dis k i hne id hid (hm id cs hn).1) (fun j cs hn=>bV fun d hd'=>hcs j cs hn d hd' k hW id hid)
 |sto _ _ _ hb _ hd _=>exact lW hu hb (bV fun d hd'=>hd d hd' k hW id hid)
 |cpy _ _ _ hb _ hd=>exact rH (lW hu hb (bV fun d hd'=>hd d hd' k hW id hid))
 |oth _ _ h=>exact h k hW id hid
theorem O9 (ok:mJ P R p) {σ':St} {i:Nat} {oi:Oper} (hi:R[i]? =some oi):∀ (n:Nat) (listed:Array Bool) (σ σ1:St),i∈Region.ready .any R listed→(∀ j,listed.getD j true=false→i≤j)→Cl R listed→Inv p listed σ→
  fC P F O R p i oi σ σ1→WI P F O R p σ' n (listed.setIfInBounds i true) σ1→WI P F O R p σ' (n+1) listed σ:=by
 intro n
 induction n with
 |zero=>
  intro listed σ σ1 hr hmin hc hinv hs H
  refine⟨fun h=>(by rw[h] at hr;cases hr),fun j hj=>?_⟩
  by_cases hji:j=i
  ·subst hji;exact⟨oi,hi,σ1,hs,H⟩
  ·have:=ready_mono hj hji
   rw[H.1] at this
   cases this
 |succ n ih=>
  intro listed σ σ1 hr hmin hc hinv hs H
  refine⟨fun h=>(by rw[h] at hr;cases hr),fun j hj=>?_⟩
  by_cases hji:j=i
  ·subst hji;exact⟨oi,hi,σ1,hs,H⟩
  ·obtain⟨oj,hoj,σ2,hs2,H2⟩:=H.2 j (ready_mono hj hji)
   have hju:=(mem_ready.1 hj).1
   have hlt:i<j:=by have:=hmin j hju;omega
   have hna:¬ OY R i j:=fun h=>by
    have:=IA hc h hj
    rw[xq (mem_ready.1 hr).1] at this;cases this
   have hnb:¬ OY R j i:=fun h=>by have:=ok.lt h;omega
   have hpair:DR P R p i j oi oj=true:=by
    rcases ok.pairs i j oi oj hlt hi hoj with h | h
    ·exact absurd h hna
    ·exact h
   have hjl:j<R.size:=(Array.getElem?_eq_some_iff.1 hoj).1
   have hil:i<R.size:=(Array.getElem?_eq_some_iff.1 hi).1
   obtain⟨σ3,h3,h4⟩:=comm hi hoj hpair (ok.dis i j (Ne.symm hji)) (hinv j hju) (ok.grow i j oi (Ne.symm hji) hi hjl hna hnb) (ok.grow j i oj hji hoj hil hnb hna) hs hs2
   refine⟨oj,hoj,σ3,h3,?_⟩
   refine ih (listed.setIfInBounds j true) σ3 σ2 (ready_mono hr (Ne.symm hji)) (fun k hk=>hmin k (wV hk).2) (ZM hc hj) (Hq ok hc hj h3 hinv) h4 ?_
   rw[Array.setIfInBounds_comm _ _ hji]
   exact H2
inductive Wh (P:Program) (F:FuncId→List D→D→Prop) (O:Oper→St→St→Prop) (R:Array Oper) (p:Plan):Nat→List Oper→St→St→Prop
 |nil {k:Nat} {σ:St}:Wh P F O R p k [] σ σ
 |cons {k:Nat} {o:Oper} {l:List Oper} {σ σ1 σ':St}:fC P F O R p k o σ σ1→Wh P F O R p (k+1) l σ1 σ'→Wh P F O R p k (o::l) σ σ'
theorem Nv (ok:mJ P R p) {σ':St}:∀ (l:List Oper) (k:Nat) (listed:Array Bool) (σ:St),(∀ j,l[j]? =R[k+j]?)→listed.size=R.size→(∀ j,j<R.size→listed.getD j false=decide (j<k))→
  Wh P F O R p k l σ σ'→Cl R listed→Inv p listed σ→WI P F O R p σ' l.length listed σ
 |[],k,listed,σ,hl,hsz,hlist,h,hc,hinv=>by
  cases h
  refine⟨?_,rfl⟩
  rw[List.eq_nil_iff_forall_not_mem]
  intro j hj
  obtain⟨hu,o,ho,_⟩:=mem_ready.1 hj
  have hjl:=getD_lt hu
  have h1:=hlist j (by omega)
  rw[xq hu] at h1
  have h2:k≤j:=by simpa using h1.symm
  have h3:=hl (j - k)
  rw[Nat.add_sub_cancel' h2,ho] at h3
  simp at h3
 |o::l,k,listed,σ,hl,hsz,hlist,h,hc,hinv=>by
  cases h with
  |@cons _ _ _ _ σ1 _ hs hrun=>
   have hk:R[k]? =some o:=by simpa using (hl 0).symm
   have hlt:k<R.size:=by
    rcases Nat.lt_or_ge k R.size with h | h
    ·exact h
    ·rw[Array.getElem?_eq_none h] at hk;cases hk
   have hun:listed.getD k true=false:=by
    have:=hlist k hlt
    simp[hsz,hlt] at this ⊢
    exact this
   have hr:k∈Region.ready .any R listed:=by
    refine mem_ready.2 ⟨hun,o,hk,fun e he hb=>?_⟩
    have hlow:=ok.low k o hk e he hb
    rw[hlist e.on (by omega)]
    simp[hlow]
   refine O9 ok hk l.length listed σ σ1 hr (fun j hj=>?_) hc hinv hs ?_
   ·have h1:=hlist j (by have:=getD_lt hj;omega)
    rw[xq hj] at h1
    simpa using h1.symm
   ·refine Nv ok l (k+1) _ σ1 (fun j=>by have:=hl (j+1);simpa [Nat.add_assoc,Nat.add_comm 1 j] using this) (by simpa using hsz) (fun j hj=>?_) hrun (ZM hc hr) (Hq ok hc hr hs hinv)
    by_cases e:k=j
    ·subst e;rw[jl (by omega)];simp
    ·rw[getD_set_ne false e,hlist j hj]
     have:j<k↔j<k+1:=by omega
     simp[this]
theorem V3 {ro:Option Nat} {n:Nat} {o:Oper} {a:Act} {w:World} {K:Act→World→Prop} {Q Q':Exit→Act→World→Prop} (h1:∀ c a w,¬ Q' (.panic c) a w) (h2:¬ LetsOut Q') (h:o.wpIn (FW ro) n P a w K Q'):o.wpIn (FW ro) n P a w K Q:=by
 unfold Oper.wpIn at *
 refine⟨h.1,?_⟩
 have h:=h.2
 generalize (o.semAt (FW ro).round a.eval).run P w=r at *
 cases r with
 |ok x w'=>
  cases x<;>simp only[Oper.uponIn] at h ⊢<;>first
   |exact h
   |exact⟨h.1,CallsIn.mono h.2 (fun e w'' he=>by
     cases e with
     |returned v=>exact he
     |panicked c=>exact absurd he (h1 _ _ _)
     |outgrown=>exact absurd he h2)⟩
   |exact⟨h.1,RoundIn.mono h.2 (fun e w'' he=>by
     cases e with
     |returned v=>exact he
     |panicked c=>exact absurd he (h1 _ _ _)
     |outgrown=>exact absurd he h2)⟩
 |halt x w'=>cases x<;>simp only[Oper.uponIn] at h ⊢<;>first | exact absurd h (h1 _ _ _) | exact h
def CJ (P:Program) (R:Array Oper) (o:Oper) (σ σ':St):Prop:=
 ∀ (ro:Option Nat) (w:World) (A:Nat→Prop) (β:Env) (base:Nat) (a:Act) (acts:List (Array Value)) (Q:Exit→Act→World→Prop),Rel w A β base σ a.tmps acts→UW σ' base acts A a w (Q .normal)→wpListIn (FW ro) 0 P R Q [o] a w
theorem Fq {o:Oper} {σ σ':St} (h:ku P F o σ σ'):∀ c,o.op≠ .defer c:=by
 intro c e
 cases h with
 |op h _=>rw[e] at h;simp[dB] at h
 |opw h _ _=>rw[e] at h;simp[dB] at h
 |grow h _ _ _ _=>rw[e] at h;simp[dB] at h
 |ext h=>rw[e] at h;simp[callParts] at h
 |call h=>rw[e] at h;simp[callParts] at h
 |own h=>rw[e] at h;simp[callParts] at h
theorem tJ (hF:∀ f as res,F f as res→CallsD P f as res) {ro:Option Nat} {w:World} {A:Nat→Prop} {β:Env} {base:Nat} {σ σ':St} {a:Act} {acts:List (Array Value)} (hrel:Rel w A β base σ a.tmps acts) {o:Oper} (h:ku P F o σ σ')
  {K:Act→World→Prop} {Q:Exit→Act→World→Prop} (hK:∀ a' w' A' β',Marks w w' A' a a'→Rel w' A' β' base σ' a'.tmps acts→Turn A A' base w w'→K a' w'):o.wpIn (FW ro) 0 P a w K Q:=
 SQ (Fq h) (KL hF hrel h fun a' w' A' β' hd hr' ht=>hK a' w' A' β' (.same hd) hr' ht)
theorem Oy (hF:∀ f as res,F f as res→CallsD P f as res) (hO:∀ o σ σ',O o σ σ'→CJ P R o σ σ') {ro:Option Nat} {i:Nat} {o:Oper} {σ σ1:St} (hi:R[i]? =some o) (h:fC P F O R p i o σ σ1) {w:World} {A:Nat→Prop} {β:Env} {base:Nat} {a:Act} {acts:List (Array Value)}
  (hr:Rel w A β base σ a.tmps acts) {K:Act→World→Prop} {Q:Exit→Act→World→Prop} (hK:UW σ1 base acts A a w K):wpOpIn (FW ro) 0 P R Q i K a w:=by
 unfold wpOpIn
 simp only[hi]
 cases h with
 |skip hw=>
  rw[if_neg (by rw[iw hr hw];simp)]
  have e:σ.q o.dst ⟨.v undef,[],[],[],none⟩=σ.put o.dst (.v undef):=by
   simp only[St.q];congr 1
  rw[e] at hK
  exact⟨fun _ _=>trivial,hK _ w A β (.same (put_defers _ _ _)) (hr.oJ o.dst (by simp[Rep,aC])) (.refl _ _ _)⟩
 |op hw hop hm _ _ _ _ _=>
  rw[if_pos (iw hr hw)]
  exact tJ hF hr (Zn hop fun i cs h=>(hm i cs h).2) fun a' w' A' β' hd hr' ht=>hK a' w' A' β' hd hr' ht
 |@sto id off ds cells hw _ hop hb hl _ _=>
  rw[if_pos (iw hr hw)]
  refine tJ hF hr (.op (id:=0) hop ?_) fun a' w' A' β' hd hr' ht=>hK a' w' A' β' hd hr' ht
  simp only[dK,hb]
  rw[if_pos hl]
 |@cpy id off k' ds cells hw _ hop hb hl _=>
  rw[if_pos (iw hr hw)]
  refine tJ hF hr (.op (id:=0) hop ?_) fun a' w' A' β' hd hr' ht=>hK a' w' A' β' hd hr' ht
  simp only[dK,hb]
  rw[if_pos hl]
 |oth _ ho _=>
  have h1:=hO _ _ _ ho ro w A β base a acts (fun e a w=>e= .normal∧K a w) hr (fun a' w' A' β' hd hr' ht=>⟨rfl,hK a' w' A' β' hd hr' ht⟩)
  simp only[wpListIn] at h1
  split at h1
  next hwt=>
   rw[if_pos hwt]
   exact Oper.wpIn_mono (fun a w h=>h.2) (V3 (fun c a w h=>by cases h.1) (fun⟨a,w,h⟩=>by cases h.1) h1)
  next hwt=>
   rw[if_neg hwt]
   exact⟨fun _ _=>trivial,h1.2.2⟩
theorem Dh (hF:∀ f as res,F f as res→CallsD P f as res) (hO:∀ o σ σ',O o σ σ'→CJ P R o σ σ') {ro:Option Nat} {σ':St} {base:Nat} {acts:List (Array Value)} {Q:Exit→Act→World→Prop}:∀ (n:Nat) (listed:Array Bool) (σ:St) (w:World) (A:Nat→Prop) (β:Env) (a:Act),
  WI P F O R p σ' n listed σ→Rel w A β base σ a.tmps acts→UW σ' base acts A a w (Q .normal)→wpAnyIn (FW ro) 0 P .any R Q n listed a w
 |0,listed,σ,w,A,β,a,h,hr,hK=>by
  obtain⟨h1,rfl⟩:=h
  exact⟨h1,hK a w A β (.same rfl) hr (.refl _ _ _)⟩
 |n+1,listed,σ,w,A,β,a,h,hr,hK=>by
  refine⟨fun h0=>?_,fun i hi=>?_⟩
  ·have:=h.1 h0;subst this
   exact hK a w A β (.same rfl) hr (.refl _ _ _)
  ·obtain⟨o,ho,σ1,hs,hrest⟩:=h.2 i hi
   exact Oy hF hO ho hs hr fun a' w' A' β' hd hr' ht=>Dh hF hO n _ σ1 w' A' β' a' hrest hr' (hK.trans hd ht)
theorem Ext.drawn (A:Nat→Prop) (w:World) (n:Nat):Ext A w { w with drawn:=n }:=⟨fun _ _=>rfl,fun _ _ h=>h⟩
theorem Rel.drawn {w:World} {A:Nat→Prop} {β:Env} {base:Nat} {σ:St} {tmps:Array Value} {acts:List (Array Value)} (h:Rel w A β base σ tmps acts) (n:Nat):Rel { w with drawn:=n } A β base σ tmps acts:=
 h.carry (.drawn A w n) (fun _ h=>h) h.low h.top (fun _ _ _=>rfl) (fun _ _ _ _ _=>rfl) (fun _ _ _=>⟨rfl,fun _ _=>rfl,fun _ _=>⟨rfl,fun h=>h⟩⟩) (h.lp.mono (.of_heap rfl) (.refl _ _) (fun _=>rfl))
theorem Oj (hF:∀ f as res,F f as res→CallsD P f as res) (hO:∀ o σ σ',O o σ σ'→CJ P R o σ σ') (hm:P.follows .mixedOrders=true) (ok:mJ P R p) {σ σ':St} (hinv:∀ k,∀ id∈p.zs k,Unused id σ) (hrun:Wh P F O R p 0 R.toList σ σ')
  {ro:Option Nat} {id:Nat} {w:World} {A:Nat→Prop} {β:Env} {base:Nat} {a:Act} {acts:List (Array Value)} {Q:Exit→Act→World→Prop} (hr:Rel w A β base σ a.tmps acts) (hK:UW σ' base acts A a w (Q .normal)):(Code.region id R true).wpIn (FW ro) 0 P Q a w:=by
 refine wpIn_region_any hm ?_
 have hl:∀ j,(Array.replicate R.size false).getD j false=false:=fun j=>by
  rcases Nat.lt_or_ge j R.size with h | h
  ·simp[h]
  ·simp[h]
 have:=Nv ok R.toList 0 (Array.replicate R.size false) σ (by simp) (by simp) (fun j _=>by rw[hl];simp) hrun (fun k o _ h=>by rw[hl] at h;cases h) (fun k _=>hinv k)
 simp only[Array.length_toList] at this
 refine Dh hF hO R.size _ σ _ A β a this (hr.drawn _) (hK.trans (.same rfl) ⟨.drawn A w _,fun _ h=>h,⟨rfl,rfl,rfl,Nat.le_refl _,fun _ _=>rfl⟩,fun _ h _=>h, .strict (.of_heap rfl) (.refl _ _)⟩)
end
end Go.Dam
end

section
namespace Go.Dam
open Go Go.RowKit
variable [gB]
mutual
def D.clear (q:Nat→Bool):D→Bool
 | .sl i _ _ _=>!(q i)
 | .ptr i _=>!(q i)
 | .pel i _ _ _=>!(q i)
 | .yld=>!(q dI)
 | .agg cs=>D.qo q cs
 | .bF cs=>D.qo q cs
 | .fn _ cs=>D.qo q cs
 |_=>true
def D.qo (q:Nat→Bool):List D→Bool
 |[]=>true
 |d::ds=>D.clear q d && D.qo q ds
end
mutual
theorem sZ {q:Nat→Bool} {id:Nat} (hq:q id=true):∀ (d:D),D.clear q d=true→d.has id=false
 | .sl i _ _ _,h=>by
  simp only[D.clear,D.has] at h ⊢
  by_cases e:i=id
  ·subst e;rw[hq] at h;cases h
  ·simpa using e
 | .pel i _ _ _,h=>by
  simp only[D.clear,D.has] at h ⊢
  by_cases e:i=id
  ·subst e;rw[hq] at h;cases h
  ·simpa using e
 | .ptr i _,h=>by
  simp only[D.clear,D.has] at h ⊢
  by_cases e:i=id
  ·subst e;rw[hq] at h;cases h
  ·simpa using e
 | .agg cs,h=>by simp only[D.clear,D.has] at h ⊢;exact oZ hq cs h
 | .bF cs,h=>by simp only[D.clear,D.has] at h ⊢;exact oZ hq cs h
 | .fn _ cs,h=>by simp only[D.clear,D.has] at h ⊢;exact oZ hq cs h
 | .undef,_=>rfl
 | .v _,_=>rfl
 | .yld,h=>by
  simp only[D.clear,D.has] at h ⊢
  by_cases e:dI=id
  ·subst e;rw[hq] at h;cases h
  ·simpa using e
 | .sh _ _,_=>rfl
 | .ow _ _ _,_=>rfl
 | .shp _ _,_=>rfl
 | .rc _,_=>rfl
 | .oc _,_=>rfl
 | .emp,_=>rfl
theorem oZ {q:Nat→Bool} {id:Nat} (hq:q id=true):∀ (ds:List D),D.qo q ds=true→D.bQ id ds=false
 |[],_=>rfl
 |d::ds,h=>by
  simp only[D.qo,Bool.and_eq_true] at h
  simp only[D.bQ,sZ hq d h.1,oZ hq ds h.2,Bool.or_self]
end
def D.wipe (q:Nat→Bool) (d:D):D:=bif D.clear q d then d else .undef
def Fr.wipe (q:Nat→Bool) (f:Fr):Fr:={ f with tm:=fun t=>(f.tm t).wipe q }
def dR.wipe (q:Nat→Bool) (b:dR):dR:={ b with cells:=b.cells.map (D.wipe q) }
def St.wipe (q:Nat→Bool) (σ:St):St:=
 { fr:=σ.fr.wipe q,stk:=σ.stk.map (Fr.wipe q),bk:=fun i=>if q i then none else(σ.bk i).map (dR.wipe q),loop:=if q dI then none else σ.loop }
theorem Ez {q:Nat→Bool} {id:Nat} (hq:q id=true) (d:D):(d.wipe q).has id=false:=by
 unfold D.wipe
 cases h:D.clear q d with
 |true=>exact sZ hq d h
 |false=>rfl
theorem zW {q:Nat→Bool} {id:Nat} (hq:q id=true) (σ:St):Unused id (σ.wipe q) where
 fr:=fun t=>Ez hq _
 stk:=fun f hf t=>by
  simp only[St.wipe,List.mem_map] at hf
  obtain⟨g,_,rfl⟩:=hf
  exact Ez hq _
 no:=by simp[St.wipe,hq]
 lp:=fun e=>by simp only[St.wipe];rw[if_pos (by rw[←e];exact hq)]
 bk:=fun i b hb=>by
  simp only[St.wipe] at hb
  split at hb
  ·cases hb
  ·simp only[Option.map_eq_some_iff] at hb
   obtain⟨b0,_,rfl⟩:=hb
   refine bV fun d hd=>?_
   simp only[dR.wipe,List.mem_map] at hd
   obtain⟨d0,_,rfl⟩:=hd
   exact Ez hq _
theorem Rep.wipe {w:World} {A:Nat→Prop} {β:Env} {d:D} {u:Value} (q:Nat→Bool) (h:Rep w A β d u):Rep w A β (d.wipe q) u:=by
 unfold D.wipe;cases D.clear q d
 ·simp[Rep,aC]
 ·exact h
theorem aZ.wipe {w:World} {A:Nat→Prop} {β:Env} (q:Nat→Bool):∀ {cs:List D} {ad:Addr},aZ w A β cs ad→aZ w A β (cs.map (D.wipe q)) ad
 |[],_,_=>trivial
 |_::_,_,⟨⟨u,h1,h2⟩,h3⟩=>⟨⟨u,h1,h2.wipe q⟩,aZ.wipe q h3⟩
theorem jE.wipe {w:World} {A:Nat→Prop} {β:Env} {f:Fr} {a:Array Value} (q:Nat→Bool) (h:jE w A β f a):jE w A β (f.wipe q) a:=⟨h.nt,fun t=>(h.tm t).wipe q⟩
theorem gU.wipe {w:World} {A:Nat→Prop} {β:Env} (q:Nat→Bool):∀ {fs:List Fr} {as:List (Array Value)},gU w A β fs as→gU w A β (fs.map (Fr.wipe q)) as
 |_,_, .nil=> .nil
 |_,_, .cons h t=> .cons (h.wipe q) (t.wipe q)
theorem oQ.wipe {w:World} {A:Nat→Prop} {β:Env} {base:Nat} {b:dR} {ad:Addr} (q:Nat→Bool) (h:oQ w A β base b ad):oQ w A β base (b.wipe q) ad:=by
 refine⟨h.spot,h.base,?_,h.cells.wipe q,h.own,h.shared,?_⟩
 ·simpa [dR.wipe] using h.obj
 ·simpa [dR.wipe] using h.inside
theorem Rel.wipe {w:World} {A:Nat→Prop} {β:Env} {base:Nat} {σ:St} {tmps:Array Value} {acts:List (Array Value)} (h:Rel w A β base σ tmps acts) (q:Nat→Bool):Rel w A β base (σ.wipe q) tmps acts where
 fr:=h.fr.wipe q
 stk:=h.stk.wipe q
 blk:=fun i b hb=>by
  simp only[St.wipe] at hb
  split at hb
  ·simp at hb
  ·simp only[Option.map_eq_some_iff] at hb
   obtain⟨b0,hb0,rfl⟩:=hb
   rcases h.blk i b0 hb0 with⟨h1,h2⟩ | ⟨ad,h1,h2⟩
   ·exact .inl ⟨h1,by simp[dR.wipe,h2]⟩
   ·exact .inr ⟨ad,h1,h2.wipe q⟩
 inj:=fun i j a b hi hj=>h.inj i j a b (fun e=>hi (by simp only[St.wipe];split<;>simp[e])) (fun e=>hj (by simp only[St.wipe];split<;>simp[e]))
 low:=h.low
 top:=h.top
 glo:=h.glo
 lp:=by
  show gK w A β base (if q dI then none else σ.loop) acts
  split
  ·trivial
  ·exact h.lp
end Go.Dam
end

section
namespace Go.Dam
open Go Go.RowKit
variable [gB]
def fO:Code→Bool
 | .seq a b=>fO a && fO b
 | .cond _ a b=>fO a && fO b
 | .block _ a=>fO a
 | .loop a=>fO a
 | .rangeFunc ..=>false
 |_=>true
def vK.leaves:vK→Option Ex
 | .ready=>some .normal
 | .done .ret=>some .ret
 | .done (.exit id)=>some (.exit id)
 |_=>none
def vK.ready? :vK→Bool
 | .ready=>true
 |_=>false
def vK.OI :vK→Bool
 | .busy=>true
 |_=>false
def Ex.round:Ex→vK
 | .normal=> .ready
 | .ret=> .done .ret
 | .exit id=> .done (.exit id)
def Ex.goes:Ex→Bool
 | .normal=>true
 |_=>false
def Ew:Option jK→Nat→Bool
 |none,_=>true
 |some L,n=>Nat.ble L.depth n
def ghost:Fr:={ nt:=1,tm:=fun _=> .undef }
def St.ranged (σ:St) (ps:Array Tmp) (assign body:Code) (caps:List D) (nt:Nat):St:=
  { fr:={ nt:=(.yld::caps).length+(nt - (.yld::caps).length),tm:=fun t=>((.yld::caps) ++ List.replicate (nt - (.yld::caps).length) (D.v undef)).getD t .undef },
    stk:=(σ.forget dI).fr::ghost::(σ.forget dI).stk,bk:=(σ.forget dI).bk,
    loop:=some { ps:=ps,assign:=assign,body:=body,depth:=σ.stk.length+2,state:= .ready } }
def Fr.puts (f:Fr):List (Tmp×D)→Fr
 |[]=>f
 |(t,d)::l=>(f.put t d).puts l
def St.round (σ:St) (f:Fr) (ps:List (Tmp×D)):St:={ fr:=f.puts ps,stk:=σ.fr::σ.stk,bk:=σ.bk,loop:=σ.loop }
def St.at (σ:St) (L:jK) (s:vK):St:={ σ with loop:=some { L with state:=s } }
inductive Job where
 |code (c:Code)
 |rounds (c:Code)
 |ops (R:Array Oper) (l:List Oper)
 |draws (R:Array Oper) (p:Plan) (k:Nat) (l:List Oper)
def Job.plain:Job→Bool
 | .draws _ _ _ _=>false
 |_=>true
inductive Runs (P:Program) (F:FuncId→List D→D→Prop):Job→St→Ex→St→Prop
  |nil {R:Array Oper} {σ:St}:Runs P F (.ops R []) σ .normal σ
  |skipped {R:Array Oper} {o:Oper} {l:List Oper} {σ σ':St}:bf R o σ=some false→Runs P F (.ops R l) (σ.put o.dst (.v undef)) .normal σ'→Runs P F (.ops R (o::l)) σ .normal σ'
  |step {R:Array Oper} {o:Oper} {l:List Oper} {σ σ1 σ':St}:bf R o σ=some true→ku P F o σ σ1→Runs P F (.ops R l) σ1 .normal σ'→Runs P F (.ops R (o::l)) σ .normal σ'
  |inline {R:Array Oper} {o:Oper} {l:List Oper} {σ σ1 σ':St} {fo:Operand} {args:Array Operand} {f:FuncId} {caps:List D} {fn:Func} {c:Code} {e:Ex} {ds:List D} {fr:Fr} {stk:List Fr}:
      bf R o σ=some true→callParts o.op=some (fo,args)→bn σ fo= .fn f caps→jq P f=some (fn,c)→
      Runs P F (.code c) (σ.enter (args.toList.map (bn σ) ++ caps) fn.ntmps) e σ1→e= .normal∨e= .ret→resD P σ1 fn.results.toList=some ds→σ1.stk=fr::stk→Ew σ1.loop stk.length=true→
      Runs P F (.ops R l) (St.put { fr:=fr,stk:=stk,bk:=σ1.bk,loop:=σ1.loop } o.dst (rF ds)) .normal σ'→Runs P F (.ops R (o::l)) σ .normal σ'
  |yield {R:Array Oper} {o:Oper} {l:List Oper} {σ σ1 σ2 σ':St} {fo:Operand} {args:Array Operand} {L L1 L2:jK} {e:Ex} {fr0 gh frI:Fr} {stk stk':List Fr}:
      bf R o σ=some true→callParts o.op=some (fo,args)→bn σ fo= .yld→σ.loop=some L→L.state.ready? =true→σ.stk=fr0::gh::stk→stk.length+2=L.depth→args.size=L.ps.size→fO L.assign=true→fO L.body=true→
      Runs P F (.code L.assign) (σ.round fr0 (L.ps.toList.zip (args.toList.map (bn σ)))) .normal σ1→σ1.loop=some L1→L1.state.ready? =true→L1.depth=L.depth→
      Runs P F (.code L.body) (σ1.at L1 .busy) e σ2→σ2.loop=some L2→L2.state.OI =true→L2.depth=L.depth→σ2.stk=frI::stk'→
      Runs P F (.ops R l) (St.put { fr:=frI,stk:=stk',bk:=σ2.bk,loop:=some { L2 with state:=e.round } } o.dst (.v (.bool e.goes))) .normal σ'→Runs P F (.ops R (o::l)) σ .normal σ'
  |ranged {g:Operand} {ps:Array Tmp} {assign body:Code} {f:FuncId} {caps:List D} {fn:Func} {c:Code} {σ σ1:St} {e1 e:Ex} {L1:jK} {fr gh:Fr} {stk:List Fr}:
      σ.loop=none→bn (σ.forget dI) g= .fn f caps→jq P f=some (fn,c)→Runs P F (.code c) (σ.ranged ps assign body caps fn.ntmps) e1 σ1→e1= .normal∨e1= .ret→fn.results.toList=[]→
      σ1.loop=some L1→L1.state.leaves=some e→L1.depth=σ.stk.length+2→σ1.stk=fr::gh::stk→Runs P F (.code (.rangeFunc g ps assign body)) σ e { fr:=fr,stk:=stk,bk:=σ1.bk }
  |region {id:Nat} {R:Array Oper} {σ σ':St}:Runs P F (.ops R R.toList) σ .normal σ'→Runs P F (.code (.region id R false)) σ .normal σ'
  |skip {σ:St}:Runs P F (.code .skip) σ .normal σ
  |ret {σ:St}:Runs P F (.code .ret) σ .ret σ
  |exit {id:Nat} {σ:St}:Runs P F (.code (.exit id)) σ (.exit id) σ
  |seq {x y:Code} {σ σ1 σ':St} {e:Ex}:Runs P F (.code x) σ .normal σ1→Runs P F (.code y) σ1 e σ'→Runs P F (.code (.seq x y)) σ e σ'
  |leave {x y:Code} {σ σ':St} {e:Ex}:Runs P F (.code x) σ e σ'→e≠ .normal→Runs P F (.code (.seq x y)) σ e σ'
  |cond {c:Operand} {x y:Code} {b:Bool} {σ σ':St} {e:Ex}:bn σ c= .v (.bool b)→Runs P F (.code (if b then x else y)) σ e σ'→Runs P F (.code (.cond c x y)) σ e σ'
  |block {id:Nat} {c:Code} {σ σ':St} {e:Ex}:Runs P F (.code c) σ e σ'→Runs P F (.code (.block id c)) σ (if e= .exit id then .normal else e) σ'
  |loop {c:Code} {σ σ':St} {e:Ex}:Runs P F (.rounds c) σ e σ'→Runs P F (.code (.loop c)) σ e σ'
  |round {c:Code} {σ σ1 σ':St} {e:Ex}:Runs P F (.code c) σ .normal σ1→Runs P F (.rounds c) σ1 e σ'→Runs P F (.rounds c) σ e σ'
  |last {c:Code} {σ σ':St} {e:Ex}:Runs P F (.code c) σ e σ'→e≠ .normal→Runs P F (.rounds c) σ e σ'
  |weak {j:Job} {σ σ1 σ':St} {e:Ex}:j.plain=true→dL σ σ1→Runs P F j σ1 e σ'→Runs P F j σ e σ'
  |late {j:Job} {σ σ1 σ':St} {e:Ex}:j.plain=true→Runs P F j σ e σ1→dL σ1 σ'→Runs P F j σ e σ'
  |wipe {j:Job} {q:Nat→Bool} {σ σ':St} {e:Ex}:j.plain=true→Runs P F j (σ.wipe q) e σ'→Runs P F j σ e σ'
  |after {R:Array Oper} {l:List Oper} {q:Nat→Bool} {σ σ':St}:Runs P F (.ops R l) σ .normal σ'→Runs P F (.ops R l) σ .normal (σ'.wipe q)
  |dnil {R:Array Oper} {p:Plan} {k:Nat} {σ:St}:Runs P F (.draws R p k []) σ .normal σ
  |dstep {R:Array Oper} {p:Plan} {k:Nat} {o:Oper} {l:List Oper} {σ σ1 σ':St}:fC P F (fun _ _ _=>False) R p k o σ σ1→Runs P F (.draws R p (k+1) l) σ1 .normal σ'→Runs P F (.draws R p k (o::l)) σ .normal σ'
  |dother {R:Array Oper} {p:Plan} {k:Nat} {o:Oper} {l:List Oper} {σ σ1 σ':St}:p.T k=true→Runs P F (.ops R [o]) σ .normal σ1→(∀ l,p.W k l=true→∀ id∈p.zs l,Unused id σ1)→Runs P F (.draws R p (k+1) l) σ1 .normal σ'→Runs P F (.draws R p k (o::l)) σ .normal σ'
  |drawn {id:Nat} {R:Array Oper} {p:Plan} {σ σ':St}:P.follows .mixedOrders=true→mJ P R p→(∀ k,∀ id∈p.zs k,Unused id σ)→Runs P F (.draws R p 0 R.toList) σ .normal σ'→Runs P F (.code (.region id R true)) σ .normal σ'
end Go.Dam
end

section
namespace Go.Dam
open Go Go.RowKit
variable [gB]
section
variable {P:Program} {F:FuncId→List D→D→Prop}
def Sound (P:Program) (F:FuncId→List D→D→Prop):Job→St→Ex→St→Prop
 | .code c,σ,e,σ'=>∀ (ro:Option Nat),(ro=none∨fO c=true)→∀ (w:World) (A:Nat→Prop) (β:Env) (base:Nat) (a:Act) (acts:List (Array Value)) (Q:Exit→Act→World→Prop),Rel w A β base σ a.tmps acts→UW σ' base acts A a w (Q e.out)→c.wpIn (FW ro) 0 P Q a w
 | .rounds c,σ,e,σ'=>∀ (ro:Option Nat),(ro=none∨fO c=true)→∃ n,∀ (w:World) (A:Nat→Prop) (β:Env) (base:Nat) (a:Act) (acts:List (Array Value)) (Q:Exit→Act→World→Prop),Rel w A β base σ a.tmps acts→UW σ' base acts A a w (Q e.out)→Code.roundsIn (FW ro) 0 P c Q n a w
 | .ops R l,σ,_,σ'=>∀ (ro:Option Nat) (w:World) (A:Nat→Prop) (β:Env) (base:Nat) (a:Act) (acts:List (Array Value)) (Q:Exit→Act→World→Prop),Rel w A β base σ a.tmps acts→UW σ' base acts A a w (Q .normal)→wpListIn (FW ro) 0 P R Q l a w
 | .draws R p k l,σ,_,σ'=>Wh P F (CJ P R) R p k l σ σ'
theorem Exit.CZ {e:Ex} (h:e≠ .normal) (K:Act→World→Prop) (Q:Exit→Act→World→Prop):Exit.then K Q e.out=Q e.out:=by
 cases e<;>first | exact absurd rfl h | (funext a w;rfl)
theorem yF {w:World} {A:Nat→Prop} {β:Env} {base:Nat} {σ:St} {tmps:Array Value} {acts:List (Array Value)} (h:Rel w A β base σ tmps acts) {args:List D} {vs:List Value} (hargs:aF w A β args vs) (nt:Nat):
  Rel w A β base (σ.enter args nt) (vs.toArray ++ Array.replicate (nt - vs.toArray.size) undef) (tmps::acts) where
 fr:=by
  have hl:=hargs.length
  refine⟨by simp[St.enter,hl],fun t=>?_⟩
  simp only[St.enter]
  rcases Nat.lt_or_ge t args.length with ht | ht
  ·have hlt:t<vs.length:=by omega
   obtain⟨u,h1,h2⟩:=hargs.get t _ (List.getElem?_eq_getElem ht)
   have e1:(vs.toArray ++ Array.replicate (nt - vs.toArray.size) undef).getD t undef=u:=by
    rw[Array.getD_eq_getD_getElem?,Array.getElem?_append_left (by simpa using hlt)]
    simp[h1]
   rw[e1,List.getD_eq_getElem?_getD,List.getElem?_append_left ht]
   simpa [ht] using h2
  ·have e1:(vs.toArray ++ Array.replicate (nt - vs.toArray.size) undef).getD t undef=undef:=by
    rw[Array.getD_eq_getD_getElem?,Array.getElem?_append_right (by simp;omega)]
    cases hc:(Array.replicate (nt - vs.toArray.size) undef)[t - vs.toArray.size]? with
    |none=>rfl
    |some y=>rw[Array.getElem?_replicate] at hc;split at hc<;>simp at hc;simp[←hc]
   rw[e1,List.getD_eq_getElem?_getD,List.getElem?_append_right ht]
   cases hc:(List.replicate (nt - args.length) (D.v undef))[t - args.length]? with
   |none=>simp[Rep,aC]
   |some y=>rw[List.getElem?_replicate] at hc;split at hc<;>simp at hc;simp[←hc,Rep,aC]
 stk:= .cons h.fr h.stk
 blk:=h.blk
 inj:=h.inj
 low:=h.low
 top:=h.top
 glo:=h.glo
 lp:=by
  show gK w A β base σ.loop (tmps::acts)
  cases hl:σ.loop with
  |none=>trivial
  |some L=>
   have:=h.lp
   rw[hl] at this
   obtain⟨l,D,fn,ts,pre,post,h1,h2,h3⟩:=this
   exact⟨l,D,fn,ts,tmps::pre,post,h1,by rw[h2];rfl,h3⟩
theorem fC.mono {R:Array Oper} {O O':Oper→St→St→Prop} {p:Plan} {k:Nat} {o:Oper} {σ σ':St} (h:fC P F O R p k o σ σ') (hO:∀ o σ σ',O o σ σ'→O' o σ σ'):fC P F O' R p k o σ σ':=by
 cases h with
 |skip h=>exact .skip h
 |op h1 h2 h3 h4 h5 h6 h7 h8=>exact .op h1 h2 h3 h4 h5 h6 h7 h8
 |sto h1 h2 h3 h4 h5 h6 h7=>exact .sto h1 h2 h3 h4 h5 h6 h7
 |cpy h1 h2 h3 h4 h5 h6=>exact .cpy h1 h2 h3 h4 h5 h6
 |oth h1 h2 h3=>exact .oth h1 (hO _ _ _ h2) h3
theorem gU.length {w:World} {A:Nat→Prop} {β:Env}:∀ {fs:List Fr} {as:List (Array Value)},gU w A β fs as→fs.length=as.length
 |_,_, .nil=>rfl
 |_,_, .cons _ t=>by simp[gU.length t]
theorem Rel.putObj {w:World} {A:Nat→Prop} {β:Env} {base:Nat} {σ:St} {tmps:Array Value} {acts:List (Array Value)} (h:Rel w A β base σ tmps acts) {k:Nat} {o o':Obj} (hk:w.heap[k]? =some o) (ho:isC o=false) (ha:¬ A k)
  (hlp:gK (w.putObj k o') A β base σ.loop acts):Rel (w.putObj k o') A β base σ tmps acts:=by
 have hne:∀ b c T fz,w.heap[b]? =some (.cells c T fz)→b≠k:=fun b c T fz hb e=>by subst e;rw[hk] at hb;cases hb;cases ho
 refine h.carry ⟨fun j hj=>World.putObj_heap_other (show j≠k from fun e=>ha (by rw[←e];exact hj)),fun b m ⟨c,T,fz,h1,h2⟩=>⟨c,T,fz,by rw[World.putObj_heap_other (hne b c T fz h1)];exact h1,h2⟩⟩ (fun _ h=>h) (fun j hj=>by simpa using h.low j hj) (by simpa using h.top) (fun _ _ _=>rfl) (fun _ _ _ _ _=>rfl) (fun i b hb=>⟨rfl,fun _ _=>rfl,fun ad had=>⟨?_,fun h=>h⟩⟩) hlp
 rcases h.blk i b hb with⟨h1,_⟩ | ⟨ad',h1,h2⟩
 ·rw[had] at h1;cases h1
 ·rw[had] at h1;cases h1
  obtain⟨c,T,hobj⟩:=h2.obj
  exact World.putObj_heap_other (hne _ _ _ _ hobj)
theorem Turn.putObj {A A':Nat→Prop} {base:Nat} {w w':World} (h:Turn A A' base w w') {k:Nat} {o o':Obj} (hk:w'.heap[k]? =some o) (ho:isC o=false) (hb:base≤k) (ha:¬ A k) (hd:∀ x,w.heap[k]? =some x→isC x=false→KZ x=false∧isC o'=false):Turn A A' base w (w'.putObj k o') where
 ext:=⟨fun j hj=>(World.putObj_heap_other (show j≠k from fun e=>ha (by rw[←e];exact hj))).trans (h.ext.same j hj),fun b m hr=>by
  obtain⟨c,T,fz,h1,h2⟩:=h.ext.room b m hr
  refine⟨c,T,fz,?_,h2⟩
  rw[World.putObj_heap_other (fun e=>by subst e;rw[hk] at h1;cases h1;cases ho)];exact h1⟩
 grows:=h.grows
 below:=⟨h.below.os,h.below.tape,h.below.output,by simpa using h.below.size,fun j hj=>(World.putObj_heap_other (by omega)).trans (h.below.block j hj)⟩
 old:=h.old
 side:=⟨fun j x hj hx=>by
   by_cases e:j=k
   ·subst e;have:=(hd x hj (EM hx)).1;rw[hx] at this;cases this
   ·rw[World.putObj_heap_other e];exact h.side.keep j x hj hx,
  fun j x hj hx=>by
   by_cases e:j=k
   ·subst e
    refine⟨o',World.putObj_heap_same (Array.getElem?_eq_some_iff.1 hk).1,(hd x hj hx).2⟩
   ·obtain⟨y,h1,h2⟩:=h.side.non j x hj hx
    exact⟨y,by rw[World.putObj_heap_other e];exact h1,h2⟩,h.side.new⟩
theorem gK.JJ {w:World} {A:Nat→Prop} {β:Env} {base:Nat} {L:Option jK} {acts:List (Array Value)} (h:gK w A β base L acts) {k:Nat} {o o':Obj} (hk:w.heap[k]? =some o) (hl:∀ r,o≠ .loop r):gK (w.putObj k o') A β base L acts:=by
 cases L with
 |none=>trivial
 |some L=>
  obtain⟨l,D,fn,ts,pre,post,h1,h2,h3,h4,h5⟩:=h
  refine⟨l,D,fn,ts,pre,post,h1,h2,h3,?_,h5⟩
  rw[World.putObj_heap_other (fun e=>by subst e;rw[hk] at h4;cases h4;exact hl _ rfl)];exact h4
theorem ZL {P:Program} {fn:Func} {ts tmps:Array Value} {w:World} {A A':Nat→Prop} {β:Env} {base:Nat} {σ:St} {acts:List (Array Value)} {R:Ending→World→Prop} {n:Nat} (hb:base≤w.heap.size) (hA:∀ k,A k→k<w.heap.size):∀ (Ds:List Nat) (w':World),Rel w' A' β base σ tmps acts→Turn A A' base w w'→Ds.Nodup→
  (∀ D∈Ds,w.heap.size≤D∧¬ A' D∧w'.heap[D]? =some (.deferred (some [])))→(∀ w'',Rel w'' A' β base σ tmps acts→Turn A A' base w w''→LeavesIn (FW none) n P fn ts R [] .returning w'')→LeavesInM (FW none) n P fn ts R (Ds.map mark) .returning w'
 |[],w',hr,ht,_,_,h=>h w' hr ht
 |D::Ds,w',hr,ht,hn,hD,h=>by
  obtain⟨h1,h2,h3⟩:=hD D (by simp)
  refine⟨by simp, .inl ⟨D,w'.putObj D (.deferred none),rfl,run_takeDeferred h3,?_⟩⟩
  refine ZL hb hA Ds _ (hr.putObj h3 rfl h2 (hr.lp.JJ h3 (fun r e=>by cases e))) (ht.putObj h3 rfl (by omega) (fun ha=>by have:=hA _ ha;omega) (fun x hx _=>by
   have:=(Array.getElem?_eq_some_iff.1 hx).1;omega)) (List.nodup_cons.1 hn).2 (fun E hE=>?_) h
  obtain⟨k1,k2,k3⟩:=hD E (by simp[hE])
  refine⟨k1,k2,?_⟩
  rw[World.putObj_heap_other (show E≠D from fun e=>(List.nodup_cons.1 hn).1 (by rw[←e];exact hE))];exact k3
theorem Rel.at {w:World} {A:Nat→Prop} {β:Env} {base:Nat} {σ:St} {tmps:Array Value} {acts:List (Array Value)} (h:Rel w A β base σ tmps acts) {L:jK} (hL:σ.loop=some L) {l D:Nat} {fn:FuncId} {ts:Array Value} {pre post:List (Array Value)} (h1:β dI=some ⟨l,0,none⟩) (h2:acts=pre ++ ts::#[.int .i64 (l:Int)]::post) (h3:post.length+2=L.depth)
  (h4:w.heap[l]? =some (.loop { state:=L.state.state,pending:=L.state.jump,fn:=fn,tmps:=ts,params:=L.ps,assign:=L.assign,body:=L.body,defers:=D })) (h5:¬ A l) (h6:base≤l) (s:vK):
  Rel (w.putObj l (.loop { state:=s.state,pending:=s.jump,fn:=fn,tmps:=ts,params:=L.ps,assign:=L.assign,body:=L.body,defers:=D })) A β base (σ.at L s) tmps acts:=by
 have hlt:=(Array.getElem?_eq_some_iff.1 h4).1
 have h0:Rel w A β base { σ with loop:=none } tmps acts:=⟨h.fr,h.stk,h.blk,h.inj,h.low,h.top,h.glo,trivial⟩
 have hp:=h0.putObj (o':= .loop { state:=s.state,pending:=s.jump,fn:=fn,tmps:=ts,params:=L.ps,assign:=L.assign,body:=L.body,defers:=D }) h4 rfl h5 trivial
 exact⟨hp.fr,hp.stk,hp.blk,hp.inj,hp.low,hp.top,hp.glo,⟨l,D,fn,ts,pre,post,h1,h2,h3,World.putObj_heap_same hlt,h5,h6⟩⟩
theorem OQ {w:World} {A:Nat→Prop} {β:Env}:∀ (ps:List Tmp) (ds:List D) (us:List Value) (f:Fr) (a:Array Value),jE w A β f a→aF w A β ds us→ds.length=ps.length→jE w A β (f.puts (ps.zip ds)) ((ps.zip us).foldl (fun t (p,v)=>t.setIfInBounds p v) a)
 |[],ds,us,f,a,h,_,_=>by cases ds<;>cases us<;>exact h
 |p::ps,[],us,f,a,h,_,hl=>by simp at hl
 |p::ps,d::ds,us,f,a,h,hu,hl=>by
  simp only[aF] at hu
  obtain⟨u,vs,rfl,h1,h2⟩:=hu
  exact OQ ps ds vs (f.put p d) (a.setIfInBounds p u) (h.put p h1) h2 (by simpa using hl)
theorem BB {w:World} {o:Oper} {ρv:Operand→Value} {fo:Operand} {args:Array Operand} (h:callParts o.op=some (fo,args)) {l:Nat} (hf:ρv fo= .func (.yield l) #[] #[]):
  (execOp ρv o).run P w=(Instr.yield l (args.map ρv)).run P w:=by
 obtain⟨dst,op,type,pos,after,guard⟩:=o
 cases op with
 |call c=>
  obtain⟨callee,as,ts⟩:=c
  cases callee with
  |value g=>
   simp[callParts] at h
   obtain⟨rfl,rfl⟩:=h
   simp[execOp,resolve,hf,Deferred.ofValue,Sem.run_bind,Sem.run_pure,Result.andThen_ok,invoke]
  |_=>simp[callParts] at h
 |_=>simp[callParts] at h
theorem bodyEnd {P:Program} {fn:Func} {w:World} {A A':Nat→Prop} {β:Env} {base:Nat} {σ:St} {acts:List (Array Value)} {R:Ending→World→Prop} {n:Nat} {a0 a':Act} {w':World} {e:Ex} (he:e= .normal∨e= .ret) (hb:base≤w.heap.size) (hA:∀ k,A k→k<w.heap.size)
  (hd:Marks w w' A' a0 a') (h0:a0.defers=[]) (hr:Rel w' A' β base σ a'.tmps acts) (ht:Turn A A' base w w') (h:∀ w'',Rel w'' A' β base σ a'.tmps acts→Turn A A' base w w''→∃ v,(results fn a'.tmps).run P w''= .ok v w''∧R (.returned v) w''):bodyPostM (FW none) n P fn R e.out a' w':=by
 obtain⟨Ds,h1,h2,h3⟩:=hd
 rw[h0,List.append_nil] at h1
 have key:LeavesInM (FW none) n P fn a'.tmps R a'.defers .returning w':=by
  rw[h1]
  exact ZL hb hA Ds w' hr ht h2 h3 (fun w'' hr'' ht''=>h w'' hr'' ht'')
 rcases he with rfl | rfl<;>exact key
theorem NS {P:Program} {ro:Option Nat} {o:Oper} {w:World} {A:Nat→Prop} {β:Env} {base:Nat} {a:Act} {acts:List (Array Value)} {σ σ1 σ2:St} {fo:Operand} {args:Array Operand} {L L1 L2:jK} {e:Ex} {fr0 gh frI:Fr} {stk stk':List Fr}
  (hp:callParts o.op=some (fo,args)) (hf:bn σ fo= .yld) (hL:σ.loop=some L) (hs:L.state.ready? =true) (hstk:σ.stk=fr0::gh::stk) (hdep:stk.length+2=L.depth) (hsz:args.size=L.ps.size) (hna:fO L.assign=true) (hnb:fO L.body=true)
  (iha:Sound P F (.code L.assign) (σ.round fr0 (L.ps.toList.zip (args.toList.map (bn σ)))) .normal σ1) (hL1:σ1.loop=some L1) (hs1:L1.state.ready? =true) (hd1:L1.depth=L.depth)
  (ihb:Sound P F (.code L.body) (σ1.at L1 .busy) e σ2) (hL2:σ2.loop=some L2) (hs2:L2.state.OI =true) (hd2:L2.depth=L.depth) (hstk2:σ2.stk=frI::stk')
  (hr:Rel w A β base σ a.tmps acts) {K:Act→World→Prop} {Q:Exit→Act→World→Prop} (hK:UW (St.put { fr:=frI,stk:=stk',bk:=σ2.bk,loop:=some { L2 with state:=e.round } } o.dst (.v (.bool e.goes))) base acts A a w K):o.wpIn (FW ro) 0 P a w K Q:=by
 have hlp:=hr.lp
 rw[hL] at hlp
 obtain⟨l,D,fn,ts,pre,post,h1,h2,h3,h4,h5,h6⟩:=hlp
 have hlen:=hr.stk.length
 rw[hstk,h2] at hlen
 simp only[List.length_cons,List.length_append] at hlen
 have hpre:pre=[]:=List.length_eq_zero_iff.1 (by omega)
 subst hpre
 simp only[List.nil_append] at h2
 subst h2
 have hst:∀ {s:vK},s.ready? =true→s= .ready:=fun {s} h=>by cases s<;>simp_all [vK.ready?]
 have hsb:∀ {s:vK},s.OI =true→s= .busy:=fun {s} h=>by cases s<;>simp_all [vK.OI]
 have e0:=hst hs
 rw[e0] at h4
 have hfo:=fE hr fo
 rw[hf] at hfo
 simp only[Rep] at hfo
 obtain⟨ad,had,hfo⟩:=hfo
 rw[h1] at had
 cases had
 have hnd:∀ c,o.op≠ .defer c:=fun c e=>by rw[e] at hp;simp[callParts] at hp
 refine⟨fun _ _=>trivial,?_⟩
 rw[Oper.semAt_eq _ _ _ hnd,BB hp hfo,run_yield h4 (by simpa using hsz)]
 refine⟨fun e=>(by cases e),?_⟩
 have hargs:aF w A β (args.toList.map (bn σ)) (args.toList.map a.eval):=kT (fE hr) _
 have hstkr:=hr.stk
 rw[hstk] at hstkr
 cases hstkr with
 |cons hfr0 hrest=>
 have hfrR:jE w A β (fr0.puts (L.ps.toList.zip (args.toList.map (bn σ)))) ((L.ps.zip (args.map a.eval)).foldl (fun t (p,v)=>t.setIfInBounds p v) ts):=by
  have:=OQ L.ps.toList _ _ fr0 ts hfr0 hargs (by simpa using hsz)
  rw[←Array.foldl_toList]
  simpa [Array.toList_zip] using this
 have hrel0:Rel w A β base (σ.round fr0 (L.ps.toList.zip (args.toList.map (bn σ)))) ((L.ps.zip (args.map a.eval)).foldl (fun t (p,v)=>t.setIfInBounds p v) ts) (a.tmps::ts::#[.int .i64 (l:Int)]::post):=
  ⟨hfrR,by show gU w A β (σ.fr::σ.stk) _;rw[hstk];exact .cons hr.fr (.cons hfr0 hrest),hr.blk,hr.inj,hr.low,hr.top,hr.glo,by
   show gK w A β base σ.loop _
   rw[hL]
   exact⟨l,D,fn,ts,[a.tmps],post,h1,rfl,h3,by rw[e0];exact h4,h5,h6⟩⟩
 refine roundIn_of_wpIn (F:=FW ro) trivial ?_
 show L.assign.wpIn (FW (some l)) 0 P _ _ w
 refine iha (some l) (.inr hna) w A β base { tmps:=_,defers:=[] } _ _ hrel0 ?_
 intro a1 w1 A1 β1 _ hr1 ht1
 have hlp1:=hr1.lp
 rw[hL1] at hlp1
 obtain⟨l1,D1,fn1,ts1,pre1,post1,g1,g2,g3,g4,g5,g6⟩:=hlp1
 have hpos:∀ {l1:Nat} {ts1:Array Value} {pre1 post1:List (Array Value)},a.tmps::ts::#[Value.int .i64 (l:Int)]::post=pre1 ++ ts1::#[.int .i64 (l1:Int)]::post1→post1.length=post.length→l=l1∧[a.tmps]=pre1∧ts=ts1∧post=post1:=by
  intro l1 ts1 pre1 post1 he hlen
  have hl:=congrArg List.length he
  simp only[List.length_cons,List.length_append] at hl
  match pre1,hl,he with
  |[x],_,he=>
   simp only[List.cons_append,List.nil_append,List.cons.injEq,Array.mk.injEq,Value.int.injEq,true_and,and_true] at he
   obtain⟨rfl,rfl,h,rfl⟩:=he
   exact⟨by omega,rfl,rfl,rfl⟩
  |[],hl,_=>simp at hl;omega
  |_::_::_,hl,_=>simp at hl;omega
 obtain⟨rfl,rfl,rfl,rfl⟩:=hpos g2 (by omega)
 have e1:=hst hs1
 rw[e1] at g4
 refine⟨_,run_beginRound g4 rfl,?_⟩
 have hrel1:=hr1.at hL1 g1 g2 g3 (by rw[e1];exact g4) g5 g6 .busy
 have ht1':=ht1.putObj (o':= .loop { state:=vK.busy.state,pending:=vK.busy.jump,fn:=fn1,tmps:=ts,params:=L1.ps,assign:=L1.assign,body:=L1.body,defers:=D1 }) g4 rfl g6 h5 (fun x hx _=>by rw[h4] at hx;cases hx;exact⟨rfl,rfl⟩)
 show L.body.wpIn (FW (some l)) 0 P _ _ _
 refine ihb (some l) (.inr hnb) _ A1 β1 base a1 _ _ hrel1 ?_
 intro a2 w2 A2 β2 _ hr2 ht2
 have hlp2:=hr2.lp
 rw[hL2] at hlp2
 obtain⟨l2,D2,fn2,ts2,pre2,post2,k1,k2,k3,k4,k5,k6⟩:=hlp2
 obtain⟨rfl,rfl,rfl,rfl⟩:=hpos k2 (by omega)
 have e2:=hsb hs2
 rw[e2] at k4
 have hrel2:=hr2.at hL2 k1 k2 k3 (by rw[e2];exact k4) k5 k6 e.round
 have ht2':=(ht1'.trans ht2).putObj (o':= .loop { state:=e.round.state,pending:=e.round.jump,fn:=fn2,tmps:=ts,params:=L2.ps,assign:=L2.assign,body:=L2.body,defers:=D2 }) k4 rfl k6 h5 (fun x hx _=>by rw[h4] at hx;cases hx;exact⟨rfl,rfl⟩)
 have hback:∀ v,v=Value.bool e.goes→K (a.put o.dst v) (w2.putObj l (.loop { state:=e.round.state,pending:=e.round.jump,fn:=fn2,tmps:=ts,params:=L2.ps,assign:=L2.assign,body:=L2.body,defers:=D2 })):=by
  rintro v rfl
  have hs2:=hrel2.stk
  simp only[St.at] at hs2
  rw[hstk2] at hs2
  cases hs2 with
  |cons hf2 hrest2=>
   have hb:Rel _ A2 β2 base { fr:=frI,stk:=stk',bk:=σ2.bk,loop:=some { L2 with state:=e.round } } a.tmps (ts::#[.int .i64 (l:Int)]::post):=
    ⟨hf2,hrest2,hrel2.blk,hrel2.inj,hrel2.low,hrel2.top,hrel2.glo,⟨l,D2,fn2,ts,[],post,k1,rfl,k3,World.putObj_heap_same (Array.getElem?_eq_some_iff.1 k4).1,k5,k6⟩⟩
   exact hK _ _ _ _ (.same (put_defers _ _ _)) (hb.oJ o.dst (by simp[Rep,aC])) ht2'
 cases e with
 |normal=>exact⟨_,_,run_endRound none k4,hback _ rfl⟩
 |ret=>exact⟨_,_,run_endRound (some .ret) k4,hback _ rfl⟩
 |exit id=>exact⟨_,_,run_endRound (some (.exit id)) k4,hback _ rfl⟩
end
end Go.Dam
end

section
namespace Go.Dam
open Go Go.RowKit
variable [gB]
section
variable {P:Program} {F:FuncId→List D→D→Prop}
def fV (w:World) (fn:FuncId) (tmps:Array Value) (ps:Array Tmp) (assign body:Code):World:=
 (w.alloc (.deferred (some []))).alloc (.loop { state:= .ready,pending:=none,fn,tmps,params:=ps,assign,body,defers:=w.heap.size })
section
variable {w:World} {A:Nat→Prop} {β:Env} {base:Nat} {σ:St} {tmps:Array Value} {acts:List (Array Value)} {fn:FuncId} {ps:Array Tmp} {assign body:Code}
theorem xh:(fV w fn tmps ps assign body).heap.size=w.heap.size+2:=by simp[fV]
theorem MR {k:Nat} (hk:k<w.heap.size):(fV w fn tmps ps assign body).heap[k]? =w.heap[k]? :=
 (Below.heap_alloc _ _ _ (by simp;omega)).trans (Below.heap_alloc _ _ _ hk)
theorem NM:(fV w fn tmps ps assign body).heap[w.heap.size+1]? =some (.loop { state:= .ready,pending:=none,fn,tmps,params:=ps,assign,body,defers:=w.heap.size }):=by
 have:=World.alloc_heap_new (w.alloc (.deferred (some []))) (.loop { state:= .ready,pending:=none,fn,tmps,params:=ps,assign,body,defers:=w.heap.size })
 simpa [fV] using this
theorem Ae:(fV w fn tmps ps assign body).heap[w.heap.size]? =some (.deferred (some [])):=
 (Below.heap_alloc _ _ _ (by simp)).trans (World.alloc_heap_new w _)
theorem AQ (hA:∀ k,A k→k<w.heap.size):Ext A w (fV w fn tmps ps assign body):=(Ext.alloc hA _).trans (Ext.alloc (fun k hk=>by have:=hA k hk;simp;omega) _) (fun _ h=>h)
theorem AL:Gi w (fV w fn tmps ps assign body):=(Gi.alloc w _).trans (Gi.alloc _ _)
theorem Jz (hA:∀ k,A k→k<w.heap.size) (top:base≤w.heap.size):Turn A A base w (fV w fn tmps ps assign body):=
 ⟨AQ hA,fun _ h=>h,((Below.refl _ w).alloc top _).alloc (by simp;omega) _,fun _ h _=>h, .strict AL (.refl _ _)⟩
theorem PZ (h:Rel w A β base σ tmps acts) {caps:List D} {vc:List Value} (hc:aF w A β caps vc) (hcl:D.bQ dI caps=false) (nt:Nat):
  Rel (fV w fn tmps ps assign body) A (β.set dI (some ⟨w.heap.size+1,0,none⟩)) base (σ.ranged ps assign body caps nt)
   ((Value.func (.yield (w.heap.size+1)) #[] #[]::vc).toArray ++ Array.replicate (nt - (Value.func (.yield (w.heap.size+1)) #[] #[]::vc).toArray.size) undef) (tmps::#[.int .i64 ((w.heap.size+1:Nat):Int)]::acts):=by
 have hx:Ext A w (fV w fn tmps ps assign body):=AQ h.low
 have h1:=h.rebind dI (some ⟨w.heap.size+1,0,none⟩) hx (by rw[xh];have:=h.top;omega) (by rw[xh];omega) AL (fun i b ad _ hb ha=>MR (nG h hb ha))
 have hc':aF (fV w fn tmps ps assign body) A (β.set dI (some ⟨w.heap.size+1,0,none⟩)) caps vc:=aF.mono hx (fun _ h=>h) _ _ (fun i hi=>Env.dG _ _ (fun e=>by subst e;rw[hcl] at hi;cases hi)) hc
 have hargs:aF (fV w fn tmps ps assign body) A (β.set dI (some ⟨w.heap.size+1,0,none⟩)) (.yld::caps) (Value.func (.yield (w.heap.size+1)) #[] #[]::vc):=by
  simp only[aF]
  exact⟨_,_,rfl,by simp only[Rep];exact⟨_,Env.bU _ _ _,rfl⟩,hc'⟩
 have h2:=yF h1 hargs nt
 have hst:=h2.stk
 cases hst with
 |cons hf hrest=>
  refine⟨h2.fr,?_,h2.blk,h2.inj,h2.low,h2.top,h2.glo,⟨w.heap.size+1,w.heap.size,fn,tmps,[],acts,Env.bU _ _ _,rfl,?_,NM,fun ha=>?_,by have:=h.top;omega⟩⟩
  ·exact .cons hf (.cons ⟨rfl,fun t=>by simp[ghost,Rep,aC]⟩ hrest)
  ·show acts.length+2=σ.stk.length+2
   rw[h.stk.length]
  ·have:=h.low _ ha;omega
end
theorem Rt (hF:∀ f as res,F f as res→CallsD P f as res) {j:Job} {σ σ':St} {e:Ex} (h:Runs P F j σ e σ'):Sound P F j σ e σ':=by
 induction h with
 |nil=>intro ro w A β base a acts Q hr hq;exact hq a w A β (.same rfl) hr (.refl _ _ _)
 |@skipped R o l σ σ' hw _ ih=>
  intro ro w A β base a acts Q hr hq
  unfold wpListIn
  rw[if_neg (by rw[iw hr hw];simp)]
  exact⟨fun _ _=>trivial,ih ro w A β base _ acts Q (hr.oJ o.dst (by simp[Rep,aC])) (hq.trans (.same (put_defers _ _ _)) (.refl _ _ _))⟩
 |@step R o l σ σ1 σ' hw hs _ ih=>
  intro ro w A β base a acts Q hr hq
  unfold wpListIn
  rw[if_pos (iw hr hw)]
  exact tJ hF hr hs fun a' w' A' β' hd hr' ht=>ih ro w' A' β' base a' acts Q hr' (hq.trans hd ht)
 |@inline R o l σ σ1 σ' fo args f caps fn c e1 ds fr stk hw hp hf hb _ he hres hstk hfit _ ihc ihl=>
  intro ro w A β base a acts Q hr hq
  unfold wpListIn
  rw[if_pos (iw hr hw)]
  have hfo:=fE hr fo
  rw[hf] at hfo
  simp only[Rep] at hfo
  obtain⟨vc,hfo,hcaps⟩:=hfo
  obtain⟨hfn,hbody,hrun⟩:=oC hb
  have hargs:aF w A β (args.toList.map (bn σ) ++ caps) (args.toList.map a.eval ++ vc):=(kT (fE hr) _).append hcaps
  refine SQ (fun c e=>by rw[e] at hp;simp[callParts] at hp) ?_
  unfold Oper.wp
  rw[kN (w:=w) (A:=A) (β:=β) hp hfo,hrun]
  refine(callsIn_wide (n:=0)).1 (callsIn_of_wp_marks (F:=FW none) hfn hbody trivial ?_)
  refine ihc none (.inl rfl) w A β base _ (a.tmps::acts) _ (yF hr hargs fn.ntmps) ?_
  intro a' w' A' β' hd hr' ht
  refine bodyEnd he hr.top hr.low hd rfl hr' ht (fun w'' hr'' ht''=>?_)
  obtain⟨v,hv,hrep⟩:=qV hr'' hres
  have hstk':=hr''.stk
  rw[hstk] at hstk'
  cases hstk' with
  |cons hfr hrest=>
   have hback:Rel w'' A' β' base { fr:=fr,stk:=stk,bk:=σ1.bk,loop:=σ1.loop } a.tmps acts:=⟨hfr,hrest,hr''.blk,hr''.inj,hr''.low,hr''.top,hr''.glo,by
    show gK w'' A' β' base σ1.loop acts
    have hlp:=hr''.lp
    cases hl1:σ1.loop with
    |none=>trivial
    |some L=>
     rw[hl1] at hlp hfit
     obtain⟨l,D,fn,ts,pre,post,h1,h2,h3,h4⟩:=hlp
     have hsl:=hrest.length
     have hfit':L.depth≤stk.length:=by simpa [Ew] using hfit
     cases pre with
     |nil=>
      simp only[List.nil_append,List.cons.injEq] at h2
      have:=congrArg List.length h2.2
      simp only[List.length_cons] at this
      omega
     |cons x pre=>
      simp only[List.cons_append,List.cons.injEq] at h2
      exact⟨l,D,fn,ts,pre,post,h1,h2.2,h3,h4⟩⟩
   exact⟨v,hv,ihl ro w'' A' β' base _ acts Q (hback.oJ o.dst hrep) (hq.trans (.same (put_defers _ _ _)) ht'')⟩
 |@yield R o l σ σ1 σ2 σ' fo args L L1 L2 e fr0 gh frI stk stk' hw hp hf hL hs hstk hdep hsz hna hnb _ hL1 hs1 hd1 _ hL2 hs2 hd2 hstk2 _ iha ihb ihl=>
  intro ro w A β base a acts Q hr hq
  unfold wpListIn
  rw[if_pos (iw hr hw)]
  exact NS hp hf hL hs hstk hdep hsz hna hnb iha hL1 hs1 hd1 ihb hL2 hs2 hd2 hstk2 hr fun a' w' A' β' hd hr' ht=>ihl ro w' A' β' base a' acts Q hr' (hq.trans hd ht)
 |@ranged g ps assign body f caps fn c σ σ1 e1 e L1 fr gh stk hl hg hb _ he hres hL1 hlv hdep hstk ih=>
  intro ro hro w A β base a acts Q hr hq
  obtain rfl:ro=none:=by
   rcases hro with h | h
   ·exact h
   ·simp[fO] at h
  refine wpIn_rangeFunc fun fn0 _=>?_
  have hgr:=fE (hr.forget dI) g
  rw[hg] at hgr
  simp only[Rep] at hgr
  obtain⟨vc,hgv,hcaps⟩:=hgr
  obtain⟨hfn,hbody,hrun⟩:=oC hb
  have hcl:D.bQ dI caps=false:=by
   have:=(Gn dI σ).eval g
   rw[hg] at this
   simpa [D.has] using this
  refine⟨w.heap.size+1,[mark w.heap.size],fV w fn0 a.tmps ps assign body,{ target:= .fn (.func f) vc.toArray,args:=#[.func (.yield (w.heap.size+1)) #[] #[]] },fV w fn0 a.tmps ps assign body,f,
   #[.func (.yield (w.heap.size+1)) #[] #[]] ++ vc.toArray,fV w fn0 a.tmps ps assign body,run_enterLoop_outer _ _ _ _ _,?_,fun _ _=>trivial,?_,fun e=>(by cases e),?_⟩
  ·simp only[resolve,hgv]
   simp[go_sem]
  ·simp[invoke,go_sem,hrun]
  ·have hrel0:=PZ (fn:=fn0) (ps:=ps) (assign:=assign) (body:=body) hr hcaps hcl fn.ntmps
   have htw:Turn A A base w (fV w fn0 a.tmps ps assign body):=Jz hr.low hr.top
   have eargs:(#[Value.func (.yield (w.heap.size+1)) #[] #[]] ++ vc.toArray)=(Value.func (.yield (w.heap.size+1)) #[] #[]::vc).toArray:=by simp
   rw[eargs]
   refine callsIn_of_wp_marks (F:=FW none) hfn hbody trivial ?_
   refine ih none (.inl rfl) _ A _ base { tmps:=_,defers:=[] } (a.tmps::#[.int .i64 ((w.heap.size+1:Nat):Int)]::acts) _ hrel0 ?_
   intro a1 w1 A1 β1 hd1 hr1 ht1
   refine bodyEnd he hrel0.top hrel0.low hd1 rfl hr1 ht1 (fun w2 hr2 ht2=>?_)
   obtain⟨v,hv,_⟩:=qV (fn:=fn) (ds:=[]) hr2 (by rw[hres];rfl)
   refine⟨v,hv,?_⟩
   have hlp:=hr2.lp
   rw[hL1] at hlp
   obtain⟨l,D,fn1,ts,pre,post,h1,h2,h3,h4,h5,h6⟩:=hlp
   have hal:=hr.stk.length
   have hpos:l=w.heap.size+1∧pre=[]∧ts=a.tmps∧acts=post:=by
    have hl:=congrArg List.length h2
    simp only[List.length_cons,List.length_append] at hl
    cases pre with
    |nil=>
     simp only[List.nil_append,List.cons.injEq,Array.mk.injEq,Value.int.injEq,true_and,and_true] at h2
     obtain⟨rfl,h,rfl⟩:=h2
     exact⟨by omega,rfl,rfl,rfl⟩
    |cons _ _=>simp only[List.length_cons] at hl;omega
   obtain⟨rfl,rfl,rfl,rfl⟩:=hpos
   have hnb:L1.state.state≠ .busy:=by
    intro e
    cases hs:L1.state with
    |ready=>rw[hs] at e;cases e
    |busy=>rw[hs] at hlv;cases hlv
    |done c=>rw[hs] at e;cases e
   refine⟨_,_,run_endLoop h4 hnb,?_⟩
   have hst:=hr2.stk
   rw[hstk] at hst
   cases hst with
   |cons hf0 hrest0=>
   cases hrest0 with
   |cons hf1 hrest=>
   have hb0:Rel w2 A1 β1 base { fr:=fr,stk:=stk,bk:=σ1.bk } a.tmps acts:=⟨hf0,hrest,hr2.blk,hr2.inj,hr2.low,hr2.top,hr2.glo,trivial⟩
   have hno:w.heap.size+1<w2.heap.size:=(Array.getElem?_eq_some_iff.1 h4).1
   have hfin:=hb0.putObj (o':= .loop { state:= .exhausted,pending:=L1.state.jump,fn:=fn1,tmps:=a.tmps,params:=L1.ps,assign:=L1.assign,body:=L1.body,defers:=D }) h4 rfl h5 trivial
   have hturn:=(htw.trans ht2).putObj (o':= .loop { state:= .exhausted,pending:=L1.state.jump,fn:=fn1,tmps:=a.tmps,params:=L1.ps,assign:=L1.assign,body:=L1.body,defers:=D }) h4 rfl h6 (fun ha=>by have:=hr.low _ ha;omega) (fun x hx _=>by
    have:=(Array.getElem?_eq_some_iff.1 hx).1;omega)
   have hmarks:Marks w (w2.putObj (w.heap.size+1) (.loop { state:= .exhausted,pending:=L1.state.jump,fn:=fn1,tmps:=a.tmps,params:=L1.ps,assign:=L1.assign,body:=L1.body,defers:=D })) A1 a { a with defers:=[mark w.heap.size] ++ a.defers }:=by
    refine⟨[w.heap.size],rfl,by simp,fun E hE=>?_⟩
    simp only[List.mem_singleton] at hE
    subst hE
    refine⟨Nat.le_refl _,fun ha=>?_,?_⟩
    ·have:=ht2.side.new _ _ Ae rfl ha
     exact Nat.lt_irrefl _ (hr.low _ this)
    ·rw[World.putObj_heap_other (by omega)]
     exact ht2.side.keep _ _ Ae rfl
   have hQ:=hq { a with defers:=[mark w.heap.size] ++ a.defers } _ A1 β1 hmarks hfin hturn
   cases hs:L1.state with
   |ready=>rw[hs] at hlv;cases hlv;rw[hs] at hQ;exact hQ
   |busy=>rw[hs] at hlv;cases hlv
   |done c=>
    rw[hs] at hlv hQ
    cases c<;>simp only[vK.leaves] at hlv<;>first | (cases hlv;done) | skip
    ·cases hlv;exact wpIn_exit hQ
    ·cases hlv;exact wpIn_ret hQ
 |region _ ih=>intro ro _ w A β base a acts Q hr hq;exact wpIn_region_list (ih ro w A β base a acts Q hr hq)
 |skip=>intro ro _ w A β base a acts Q hr hq;exact wpIn_skip (hq a w A β (.same rfl) hr (.refl _ _ _))
 |ret=>intro ro _ w A β base a acts Q hr hq;exact wpIn_ret (hq a w A β (.same rfl) hr (.refl _ _ _))
 |exit=>intro ro _ w A β base a acts Q hr hq;exact wpIn_exit (hq a w A β (.same rfl) hr (.refl _ _ _))
 |seq _ _ ih1 ih2=>
  intro ro hro w A β base a acts Q hr hq
  have h1:=hro.imp_right (fun h=>by simpa [fO] using h)
  exact wpIn_seq (ih1 ro (h1.imp_right And.left) w A β base a acts _ hr fun a' w' A' β' hd hr' ht=>ih2 ro (h1.imp_right And.right) w' A' β' base a' acts Q hr' (hq.trans hd ht))
 |leave _ hne ih=>
  intro ro hro w A β base a acts Q hr hq
  have h1:=hro.imp_right (fun h=>by simpa [fO] using h)
  exact wpIn_seq (ih ro (h1.imp_right And.left) w A β base a acts _ hr (by rw[Exit.CZ hne];exact hq))
 |@cond c x y b σ σ' e hc _ ih=>
  intro ro hro w A β base a acts Q hr hq
  have h0:=hro.imp_right (fun h=>by simpa [fO] using h)
  have h1:=fE hr c
  rw[hc] at h1
  simp only[Rep,aC] at h1
  exact wpIn_cond h1 (ih ro (h0.imp_right (fun h=>by cases b;exact h.2;exact h.1)) w A β base a acts Q hr hq)
 |@block id c σ σ' e _ ih=>
  intro ro hro w A β base a acts Q hr hq
  refine wpIn_block (ih ro hro w A β base a acts _ hr fun a' w' A' β' hd hr' ht=>?_)
  have:=hq a' w' A' β' hd hr' ht
  cases e with
  |normal=>exact this
  |ret=>exact this
  |exit i=>
   by_cases hi:i=id
   ·subst hi;simp only[if_true] at this;simp only[Ex.out,Exit.inBlock,if_true];exact this
   ·rw[if_neg (by simp[hi])] at this;simp only[Ex.out,Exit.inBlock,if_neg hi];exact this
 |loop _ ih=>
  intro ro hro w A β base a acts Q hr hq
  obtain⟨n,hn⟩:=ih ro hro
  exact wpIn_loop_rounds n (hn w A β base a acts Q hr hq)
 |round _ _ ih1 ih2=>
  intro ro hro
  obtain⟨n,hn⟩:=ih2 ro hro
  refine⟨n+1,fun w A β base a acts Q hr hq=>?_⟩
  rw[roundsIn_succ]
  exact ih1 ro hro w A β base a acts _ hr fun a' w' A' β' hd hr' ht=>hn w' A' β' base a' acts Q hr' (hq.trans hd ht)
 |last _ hne ih=>
  intro ro hro
  refine⟨1,fun w A β base a acts Q hr hq=>?_⟩
  rw[roundsIn_succ]
  exact ih ro hro w A β base a acts _ hr (by rw[Exit.CZ hne];exact hq)
 |@weak j σ σ1 σ' e hp hw _ ih=>
  cases j with
  |code c=>intro ro hro w A β base a acts Q hr hq;obtain⟨β',hr'⟩:=hw w A β base a.tmps acts hr;exact ih ro hro w A β' base a acts Q hr' hq
  |ops R l=>intro ro w A β base a acts Q hr hq;obtain⟨β',hr'⟩:=hw w A β base a.tmps acts hr;exact ih ro w A β' base a acts Q hr' hq
  |rounds c=>intro ro hro;obtain⟨n,hn⟩:=ih ro hro;exact⟨n,fun w A β base a acts Q hr hq=>let ⟨β',hr'⟩:=hw w A β base a.tmps acts hr;hn w A β' base a acts Q hr' hq⟩
  |draws R p k l=>cases hp
 |@late j σ σ1 σ' e hp _ hw ih=>
  have key:∀ {base:Nat} {acts:List (Array Value)} {A:Nat→Prop} {a:Act} {w:World} {K:Act→World→Prop},UW σ' base acts A a w K→UW σ1 base acts A a w K:=
   fun hq a' w' A' β' hd hr ht=>let ⟨β'',hr'⟩:=hw w' A' β' _ _ _ hr;hq a' w' A' β'' hd hr' ht
  cases j with
  |code c=>intro ro hro w A β base a acts Q hr hq;exact ih ro hro w A β base a acts Q hr (key hq)
  |ops R l=>intro ro w A β base a acts Q hr hq;exact ih ro w A β base a acts Q hr (key hq)
  |rounds c=>intro ro hro;obtain⟨n,hn⟩:=ih ro hro;exact⟨n,fun w A β base a acts Q hr hq=>hn w A β base a acts Q hr (key hq)⟩
  |draws R p k l=>cases hp
 |@wipe j q σ σ' e hp _ ih=>
  cases j with
  |code c=>intro ro hro w A β base a acts Q hr hq;exact ih ro hro w A β base a acts Q (hr.wipe q) hq
  |ops R l=>intro ro w A β base a acts Q hr hq;exact ih ro w A β base a acts Q (hr.wipe q) hq
  |rounds c=>intro ro hro;obtain⟨n,hn⟩:=ih ro hro;exact⟨n,fun w A β base a acts Q hr hq=>hn w A β base a acts Q (hr.wipe q) hq⟩
  |draws R p k l=>cases hp
 |@after R l q σ σ' _ ih=>intro ro w A β base a acts Q hr hq;exact ih ro w A β base a acts Q hr fun a' w' A' β' hd hr' ht=>hq a' w' A' β' hd (hr'.wipe q) ht
 |dnil=>exact .nil
 |dstep h _ ih=>exact .cons (h.mono fun _ _ _ h=>h.elim) ih
 |dother h1 _ h3 _ ih1 ih2=>exact .cons (.oth h1 ih1 h3) ih2
 |drawn hm ok hinv _ ih=>intro ro _ w A β base a acts Q hr hq;exact Oj hF (fun _ _ _ h=>h) hm ok hinv ih hr hq
end
end Go.Dam
end
