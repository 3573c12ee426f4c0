/- The engine: an abstract machine for the program's functions, proved right against the model. No condition. -/
import Derived.Below
import Derived.LoopN
import Derived.Orders
import Derived.Tactics
import Derived.RangeFuncRecord
import Derived.LoopNIn
import Derived.OrdersIn
import Derived.TacticsIn
import Derived.Laws.Sem
import Derived.Laws.World
import GoSem.Builtin.Append
set_option linter.unusedSectionVars false
set_option linter.unusedVariables false
set_option linter.unusedSimpArgs false
section
namespace Go.Dam
open Go Go.RowKit
def aj (o:BinOp) (k:IntKind) (x y:Int):Int:=
 match o with
 | .add=>k.wrap (x+y)
 | .sub=>k.wrap (x - y)
 | .mul=>k.wrap (x*y)
 | .quo=>k.wrap (x.tdiv y)
 | .rem=>x.tmod y
 | .and=>k.wrap (BitVec.ofInt k.bits x &&& BitVec.ofInt k.bits y).toNat
 | .or=>k.wrap (BitVec.ofInt k.bits x ||| BitVec.ofInt k.bits y).toNat
 | .xor=>k.wrap (BitVec.ofInt k.bits x ^^^ BitVec.ofInt k.bits y).toNat
 | .andNot=>k.wrap (BitVec.ofInt k.bits x &&& ~~~ BitVec.ofInt k.bits y).toNat
 | .shl=>k.wrap (x*2 ^ min y.toNat k.bits)
 | .shr=>x.fdiv (2 ^ min y.toNat k.bits)
 |_=>0
def ai (o:BinOp) (x y:Int):Bool:=
 match o with
 | .eql=>x ==y
 | .neq=>x != y
 | .lss=>decide (x<y)
 | .leq=>decide (x≤y)
 | .gtr=>decide (x > y)
 | .geq=>decide (x≥y)
 |_=>false
structure Sz where
 s:Nat
 r:Nat:=0
 deriving DecidableEq,Inhabited
instance:Coe Sz Nat:=⟨Sz.s⟩
inductive aH where
 |ints (k:IntKind) (xs:List Int)
 |bools (xs:List Bool)
 deriving Inhabited
inductive Col where
 |ints (k:IntKind) (xs:List Int)
 |bools (xs:List Bool)
 |rows (n:Nat) (f:Nat→List aH)
 deriving Inhabited
def aH.len:aH→Nat
 | .ints _ xs=>xs.length
 | .bools xs=>xs.length
def aH.val (i:Nat):aH→Value
 | .ints k xs=> .int k (xs.getD i 0)
 | .bools xs=> .bool (xs.getD i false)
def aH.up:aH→Col
 | .ints k xs=> .ints k xs
 | .bools xs=> .bools xs
def Col.len:Col→Nat
 | .ints _ xs=>xs.length
 | .bools xs=>xs.length
 | .rows n _=>n
def ah:List aH→Nat
 |[]=>0
 |c::_=>c.len
def rowLen:List Col→Nat
 |[]=>0
 |c::_=>c.len
@[simp] theorem aH.ajR (c:aH):c.up.len=c.len:=by cases c<;>rfl
@[simp] theorem eu (cs:List aH):rowLen (cs.map aH.up)=ah cs:=by cases cs<;>simp[rowLen,ah]
inductive D where
 |undef
 |v (x:Value)
 |emp
 |sh (n:Nat) (cs:List D)
 |ow (n sz:Nat) (cs:List D)
 |sl (id off n:Nat) (sz:Sz)
 |ptr (id off:Nat)
 |shp (cs:List D) (off:Nat)
 |fn (f:Nat) (caps:List D)
 |yld
 |agg (cs:List D)
 |bF (cs:List D)
 |rc (cs:List Col)
 |pel (id i w j:Nat)
 |oc (cs:List aH)
 deriving Inhabited
structure dR where
 cells:List D
 ro:Bool
 deriving Inhabited
class gB where
 g:Nat→List D
 walked:Nat→Bool
variable [gB]
def KT:Nat:=1152921504606846977
def Live:Prop:=gB.walked KT=true
def dI:Nat:=1152921504606846976
abbrev Env:=Nat→Option Addr
def aG (a:Addr) (n:Nat):Addr:=⟨a.block,a.off+n,none⟩
@[simp] theorem ZV (a:Addr) (n:Nat):(aG a n).block=a.block:=rfl
@[simp] theorem acH (a:Addr) (n:Nat):(aG a n).off=a.off+n:=rfl
@[simp] theorem dh (a:Addr) (n m:Nat):aG (aG a n) m=aG a (n+m):=by simp[aG,Nat.add_assoc]
@[simp] theorem Ag (a:Addr) (n m:Nat):(aG a n).add m=aG a (n+m):=by
 unfold Addr.add aG
 split
 ·next e=>subst e;rfl
 ·simp[Nat.add_assoc]
theorem cO (a:Addr) (n:Nat) (h:a.spot=none):a.add n=aG a n:=by
 unfold Addr.add aG
 split
 ·next e=>subst e;cases a;simp at h;simp[h]
 ·rfl
def NZ (w:World) (A:Nat→Prop) (cs:List aH) (u:Value):Prop:=
 ∃ o cp,u= .slice o (ah cs) cp∧(Live→o≠none)∧ah cs≤cp∧(ah cs≠0→∃ ad,o=some ad∧ad.spot=none∧A ad.block)∧
  ∀ i j c,i<ah cs→cs[j]? =some c→w.cell? (aG (o.getD default) (i*cs.length+j))=some (c.val i)
def Gw (w:World) (A:Nat→Prop) (i:Nat) (x:Value):Col→Prop
 | .ints k xs=>x= .int k (xs.getD i 0)
 | .bools xs=>x= .bool (xs.getD i false)
 | .rows _ f=>NZ w A (f i) x
def Rx (w:World) (A:Nat→Prop) (cs:List Col) (u:Value):Prop:=
 ∃ o cp,u= .slice o (rowLen cs) cp∧(Live→o≠none)∧rowLen cs≤cp∧(rowLen cs≠0→∃ ad,o=some ad∧ad.spot=none∧A ad.block)∧
  ∀ i j c,i<rowLen cs→cs[j]? =some c→∃ x,w.cell? (aG (o.getD default) (i*cs.length+j))=some x∧Gw w A i x c
mutual
def aC (w:World) (A:Nat→Prop):D→Value→Prop
 | .undef,_=>True
 | .v x,u=>u=x
 | .emp,u=>∃ ad:Addr,u= .slice (some ad) 0 0
 | .sh n cs,u=>∃ o c,u= .slice o n c∧n≤c∧(n≠0∨cs≠[]→∃ ad,o=some ad∧ad.spot=none∧A ad.block)∧bC w A cs (o.getD default)
 | .shp cs off,u=>∃ ad,u= .pointer (some (aG ad off))∧ad.spot=none∧(cs≠[]→A ad.block)∧bC w A cs ad
 | .agg cs,u=>∃ vs:List Value,u= .agg vs.toArray∧dD w A cs vs
 | .bF cs,u=>∃ vs:List Value,u= .tuple vs.toArray∧dD w A cs vs
 | .fn f cs,u=>∃ vs:List Value,u= .func (.func f) #[] vs.toArray∧dD w A cs vs
 | .rc cs,u=>Rx w A cs u
 |_,_=>False
def bC (w:World) (A:Nat→Prop):List D→Addr→Prop
 |[],_=>True
 |d::ds,ad=>(∃ u,w.cell? ad=some u∧aC w A d u)∧bC w A ds (aG ad 1)
def dD (w:World) (A:Nat→Prop):List D→List Value→Prop
 |[],vs=>vs=[]
 |d::ds,vs=>∃ x xs,vs=x::xs∧aC w A d x∧dD w A ds xs
end
def Room (w:World) (b m:Nat):Prop:=∃ c T fz,w.heap[b]? =some (.cells c T fz)∧m≤c.size
mutual
def Rep (w:World) (A:Nat→Prop) (β:Env):D→Value→Prop
 | .sl id off n sz,u=>∃ o c,u= .slice o n c∧((max n sz.r=0∧c=0)∨(max n sz.r≤c∧∃ ad,β id=some ad∧o=some (aG ad off)∧Room w ad.block (ad.off+off+c*sz.s)))
 | .ptr id off,u=>∃ ad,β id=some ad∧u= .pointer (some (aG ad off))
 | .pel id i n j,u=>∃ ad,β id=some ad∧u= .pointer (some (aG ad (i*n+j)))
 | .yld,u=>∃ ad,β dI=some ad∧u= .func (.yield ad.block) #[] #[]
 | .agg cs,u=>∃ vs:List Value,u= .agg vs.toArray∧aF w A β cs vs
 | .bF cs,u=>∃ vs:List Value,u= .tuple vs.toArray∧aF w A β cs vs
 | .fn f cs,u=>∃ vs:List Value,u= .func (.func f) #[] vs.toArray∧aF w A β cs vs
 |d,u=>aC w A d u
def aF (w:World) (A:Nat→Prop) (β:Env):List D→List Value→Prop
 |[],vs=>vs=[]
 |d::ds,vs=>∃ x xs,vs=x::xs∧Rep w A β d x∧aF w A β ds xs
end
mutual
def D.has (id:Nat):D→Bool
 | .sl i _ _ _=>i ==id
 | .ptr i _=>i ==id
 | .pel i _ _ _=>i ==id
 | .yld=>dI ==id
 | .agg cs=>D.bQ id cs
 | .bF cs=>D.bQ id cs
 | .fn _ cs=>D.bQ id cs
 |_=>false
def D.bQ (id:Nat):List D→Bool
 |[]=>false
 |d::ds=>D.has id d || D.bQ id ds
end
structure Ext (A:Nat→Prop) (w w':World):Prop where
 same:∀ k,A k→w'.heap[k]? =w.heap[k]?
 room:∀ b m,Room w b m→Room w' b m
def isC:Obj→Bool
 | .cells ..=>true
 |_=>false
def Gi (w w':World):Prop:=∀ (k:Nat) (o:Obj),w.heap[k]? =some o→isC o=false→w'.heap[k]? =some o
theorem Gi.refl (w:World):Gi w w:=fun _ _ h _=>h
theorem Gi.trans {a b c:World} (h:Gi a b) (k:Gi b c):Gi a c:=fun i o hi ho=>k i o (h i o hi ho) ho
theorem Gi.of_heap {w w':World} (h:w'.heap=w.heap):Gi w w':=fun k o hk _=>by rw[h];exact hk
theorem Gi.below {w w':World} (h:Below w.heap.size w w'):Gi w w':=fun k o hk _=>by
 rw[h.block k (Array.getElem?_eq_some_iff.1 hk).1];exact hk
theorem Gi.but {w w':World} {b:Nat} {c:Array Value} {T:TypeId} {fz:Nat×Nat} (hb:w.heap[b]? =some (.cells c T fz)) (h:∀ k,k≠b→w'.heap[k]? =w.heap[k]?):Gi w w':=fun k o hk ho=>by
 by_cases e:k=b
 ·subst e;rw[hb] at hk;cases hk;cases ho
 ·rw[h k e];exact hk
def New (A A':Nat→Prop) (w:World):Prop:=∀ (k:Nat) (o:Obj),w.heap[k]? =some o→isC o=false→A' k→A k
theorem New.refl (A:Nat→Prop) (w:World):New A A w:=fun _ _ _ _ h=>h
def KZ:Obj→Bool
 | .deferred _=>true
 |_=>false
theorem EM {o:Obj} (h:KZ o=true):isC o=false:=by cases o<;>simp_all [KZ,isC]
structure Side (A A':Nat→Prop) (w w':World):Prop where
 keep:∀ (k:Nat) (o:Obj),w.heap[k]? =some o→KZ o=true→w'.heap[k]? =some o
 non:∀ (k:Nat) (o:Obj),w.heap[k]? =some o→isC o=false→∃ o':Obj,w'.heap[k]? =some o'∧isC o'=false
 new:New A A' w
theorem Side.strict {A A':Nat→Prop} {w w':World} (h:Gi w w') (k:New A A' w):Side A A' w w':=
 ⟨fun i o hi ho=>h i o hi (EM ho),fun i o hi ho=>⟨o,h i o hi ho,ho⟩,k⟩
theorem Side.refl (A:Nat→Prop) (w:World):Side A A w w:= .strict (.refl w) (.refl A w)
theorem Side.trans {A A' A'':Nat→Prop} {a b c:World} (h:Side A A' a b) (k:Side A' A'' b c):Side A A'' a c:=
  ⟨fun i o hi ho=>k.keep i o (h.keep i o hi ho) ho,fun i o hi ho=>let ⟨o',h1,h2⟩:=h.non i o hi ho;k.non i o' h1 h2,
   fun i o hi ho ha=>let ⟨o',h1,h2⟩:=h.non i o hi ho;h.new i o hi ho (k.new i o' h1 h2 ha)⟩
theorem Ext.refl (A:Nat→Prop) (w:World):Ext A w w:=⟨fun _ _=>rfl,fun _ _ h=>h⟩
theorem Ext.trans {A A':Nat→Prop} {a b c:World} (h:Ext A a b) (k:Ext A' b c) (hA:∀ x,A x→A' x):Ext A a c:=
 ⟨fun x hx=>(k.same x (hA x hx)).trans (h.same x hx),fun b m r=>k.room b m (h.room b m r)⟩
theorem jP {w w':World} {ad:Addr} (h:w'.heap[ad.block]? =w.heap[ad.block]?):w'.cell? ad=w.cell? ad:=by
 unfold World.cell?;rw[h]
theorem NZ.mono {w w':World} {A A':Nat→Prop} (hs:∀ k,A k→w'.heap[k]? =w.heap[k]?) (hA:∀ k,A k→A' k) {cs:List aH} {u:Value} (h:NZ w A cs u):NZ w' A' cs u:=by
 obtain⟨o,cp,rfl,hv,h1,h2,h3⟩:=h
 refine⟨o,cp,rfl,hv,h1,fun hne=>?_,fun i j k hi hk=>?_⟩
 ·obtain⟨ad,h4,h5,h6⟩:=h2 hne;exact⟨ad,h4,h5,hA _ h6⟩
 ·obtain⟨ad,rfl,h5,h6⟩:=h2 (by omega)
  exact(jP (ad:=aG ad (i*cs.length+j)) (hs _ h6)).trans (h3 i j k hi hk)
theorem Gw.mono {w w':World} {A A':Nat→Prop} (hs:∀ k,A k→w'.heap[k]? =w.heap[k]?) (hA:∀ k,A k→A' k) {c:Col} {i:Nat} {x:Value} (h:Gw w A i x c):Gw w' A' i x c:=by
 cases c with
 |ints k xs=>exact h
 |bools xs=>exact h
 |rows n f=>exact NZ.mono hs hA h
theorem Rx.mono {w w':World} {A A':Nat→Prop} (hs:∀ k,A k→w'.heap[k]? =w.heap[k]?) (hA:∀ k,A k→A' k) {cs:List Col} {u:Value} (h:Rx w A cs u):Rx w' A' cs u:=by
 obtain⟨o,cp,rfl,hv,h1,h2,h3⟩:=h
 refine⟨o,cp,rfl,hv,h1,fun hne=>?_,fun i j k hi hk=>?_⟩
 ·obtain⟨ad,h4,h5,h6⟩:=h2 hne;exact⟨ad,h4,h5,hA _ h6⟩
 ·obtain⟨ad,rfl,h5,h6⟩:=h2 (by omega)
  obtain⟨x,h7,h8⟩:=h3 i j k hi hk
  exact⟨x,(jP (ad:=aG ad (i*cs.length+j)) (hs _ h6)).trans h7,h8.mono hs hA⟩
mutual
theorem aC.mono {w w':World} {A A':Nat→Prop} (hs:∀ k,A k→w'.heap[k]? =w.heap[k]?) (hA:∀ k,A k→A' k):∀ (d:D) (u:Value),aC w A d u→aC w' A' d u
 | .undef,_,_=>by simp[aC]
 | .v x,u,h=>by simpa [aC] using h
 | .emp,u,h=>by simpa [aC] using h
 | .sh n cs,u,h=>by
  simp only[aC] at h ⊢
  obtain⟨o,c,rfl,hc,h1,h2⟩:=h
  refine⟨o,c,rfl,hc,fun hne=>?_,?_⟩
  ·obtain⟨ad,h3,h4,h5⟩:=h1 hne;exact⟨ad,h3,h4,hA _ h5⟩
  ·cases cs with
   |nil=>simp[bC]
   |cons d ds=>
    obtain⟨ad,rfl,h4,h5⟩:=h1 (.inr (by simp))
    exact bC.mono hs hA (d::ds) ad h5 h2
 | .shp cs off,u,h=>by
  simp only[aC] at h ⊢
  obtain⟨ad,rfl,h4,h1,h2⟩:=h
  refine⟨ad,rfl,h4,fun hne=>hA _ (h1 hne),?_⟩
  cases cs with
  |nil=>simp[bC]
  |cons d ds=>exact bC.mono hs hA (d::ds) ad (h1 (by simp)) h2
 | .agg cs,u,h=>by
  simp only[aC] at h ⊢
  obtain⟨vs,rfl,h⟩:=h
  exact⟨vs,rfl,dD.mono hs hA cs vs h⟩
 | .bF cs,u,h=>by
  simp only[aC] at h ⊢
  obtain⟨vs,rfl,h⟩:=h
  exact⟨vs,rfl,dD.mono hs hA cs vs h⟩
 | .fn f cs,u,h=>by
  simp only[aC] at h ⊢
  obtain⟨vs,rfl,h⟩:=h
  exact⟨vs,rfl,dD.mono hs hA cs vs h⟩
 | .rc cs,u,h=>by simp only[aC] at h ⊢;exact h.mono hs hA
 | .oc _,_,h=>by simp[aC] at h
 | .pel _ _ _ _,_,h=>by simp[aC] at h
 | .ow _ _ _,_,h=>by simp[aC] at h
 | .sl _ _ _ _,_,h=>by simp[aC] at h
 | .ptr _ _,_,h=>by simp[aC] at h
 | .yld,_,h=>by simp[aC] at h
theorem bC.mono {w w':World} {A A':Nat→Prop} (hs:∀ k,A k→w'.heap[k]? =w.heap[k]?) (hA:∀ k,A k→A' k):∀ (cs:List D) (ad:Addr),A ad.block→bC w A cs ad→bC w' A' cs ad
 |[],_,_,_=>by simp[bC]
 |d::ds,ad,ha,h=>by
  simp only[bC] at h ⊢
  obtain⟨⟨u,h1,h2⟩,h3⟩:=h
  exact⟨⟨u,(jP (hs _ ha)).trans h1,aC.mono hs hA d u h2⟩,bC.mono hs hA ds (aG ad 1) ha h3⟩
theorem dD.mono {w w':World} {A A':Nat→Prop} (hs:∀ k,A k→w'.heap[k]? =w.heap[k]?) (hA:∀ k,A k→A' k):∀ (cs:List D) (vs:List Value),dD w A cs vs→dD w' A' cs vs
 |[],_,h=>by simpa [dD] using h
 |d::ds,vs,h=>by
  simp only[dD] at h ⊢
  obtain⟨x,xs,rfl,h1,h2⟩:=h
  exact⟨x,xs,rfl,aC.mono hs hA d x h1,dD.mono hs hA ds xs h2⟩
end
mutual
theorem Rep.mono {w w':World} {A A':Nat→Prop} {β β':Env} (hx:Ext A w w') (hA:∀ k,A k→A' k):∀ (d:D) (u:Value),(∀ id,d.has id=true→β' id=β id)→Rep w A β d u→Rep w' A' β' d u
 | .sl id off n sz,u,hb,h=>by
  simp only[Rep] at h ⊢
  obtain⟨o,c,rfl,h⟩:=h
  refine⟨o,c,rfl,?_⟩
  rcases h with h | ⟨h1,ad,h2,h3,h4⟩
  ·exact .inl h
  ·exact .inr ⟨h1,ad,(hb id (by simp[D.has])).trans h2,h3,hx.room _ _ h4⟩
 | .ptr id off,u,hb,h=>by
  simp only[Rep] at h ⊢
  obtain⟨ad,h1,h2⟩:=h
  exact⟨ad,(hb id (by simp[D.has])).trans h1,h2⟩
 | .pel id i n j,u,hb,h=>by
  simp only[Rep] at h ⊢
  obtain⟨ad,h1,h2⟩:=h
  exact⟨ad,(hb id (by simp[D.has])).trans h1,h2⟩
 | .yld,u,hb,h=>by
  simp only[Rep] at h ⊢
  obtain⟨ad,h1,h2⟩:=h
  exact⟨ad,(hb dI (by simp[D.has])).trans h1,h2⟩
 | .agg cs,u,hb,h=>by
  simp only[Rep] at h ⊢
  obtain⟨vs,rfl,h⟩:=h
  exact⟨vs,rfl,aF.mono hx hA cs vs (fun id h=>hb id (by simpa [D.has] using h)) h⟩
 | .bF cs,u,hb,h=>by
  simp only[Rep] at h ⊢
  obtain⟨vs,rfl,h⟩:=h
  exact⟨vs,rfl,aF.mono hx hA cs vs (fun id h=>hb id (by simpa [D.has] using h)) h⟩
 | .fn f cs,u,hb,h=>by
  simp only[Rep] at h ⊢
  obtain⟨vs,rfl,h⟩:=h
  exact⟨vs,rfl,aF.mono hx hA cs vs (fun id h=>hb id (by simpa [D.has] using h)) h⟩
 | .undef,u,_,h=>by simp only[Rep] at h ⊢;exact aC.mono hx.same hA _ _ h
 | .v x,u,_,h=>by simp only[Rep] at h ⊢;exact aC.mono hx.same hA _ _ h
 | .sh _ _,u,_,h=>by simp only[Rep] at h ⊢;exact aC.mono hx.same hA _ _ h
 | .shp _ _,u,_,h=>by simp only[Rep] at h ⊢;exact aC.mono hx.same hA _ _ h
 | .emp,u,_,h=>by simp only[Rep] at h ⊢;exact aC.mono hx.same hA _ _ h
 | .ow _ _ _,u,_,h=>by simp only[Rep] at h ⊢;exact aC.mono hx.same hA _ _ h
 | .rc _,u,_,h=>by simp only[Rep] at h ⊢;exact aC.mono hx.same hA _ _ h
 | .oc _,u,_,h=>by simp only[Rep] at h ⊢;exact aC.mono hx.same hA _ _ h
theorem aF.mono {w w':World} {A A':Nat→Prop} {β β':Env} (hx:Ext A w w') (hA:∀ k,A k→A' k):∀ (cs:List D) (vs:List Value),(∀ id,D.bQ id cs=true→β' id=β id)→aF w A β cs vs→aF w' A' β' cs vs
 |[],_,_,h=>by simpa [aF] using h
 |d::ds,vs,hb,h=>by
  simp only[aF] at h ⊢
  obtain⟨x,xs,rfl,h1,h2⟩:=h
  exact⟨x,xs,rfl,Rep.mono hx hA d x (fun id h=>hb id (by simp[D.bQ,h])) h1,aF.mono hx hA ds xs (fun id h=>hb id (by simp[D.bQ,h])) h2⟩
end
end Go.Dam
end

section
namespace Go.Dam
open Go Go.RowKit
variable [gB]
def dA {α:Type} (P:Program):Sem α→Option α
 | .pure a=>some a
 | .program k=>dA P (k P)
 | .mark _ k=>dA P k
 |_=>none
theorem ng {α:Type} (P:Program) (w:World):∀ (s:Sem α) (a:α),dA P s=some a→s.run P w= .ok a w
 | .pure b,a,h=>by simp[dA] at h;subst h;rfl
 | .program k,a,h=>by simp only[dA] at h;simp only[Sem.run];exact ng P w (k P) a h
 | .load ..,_,h=>by simp[dA] at h
 | .store ..,_,h=>by simp[dA] at h
 | .new ..,_,h=>by simp[dA] at h
 | .shape ..,_,h=>by simp[dA] at h
 | .freeze ..,_,h=>by simp[dA] at h
 | .frozen ..,_,h=>by simp[dA] at h
 | .getObj ..,_,h=>by simp[dA] at h
 | .setObj ..,_,h=>by simp[dA] at h
 | .choose ..,_,h=>by simp[dA] at h
 | .sys ..,_,h=>by simp[dA] at h
 | .mark _ k,a,h=>by simp only[dA] at h;simp only[Sem.run];exact ng P w k a h
 | .halt ..,_,h=>by simp[dA] at h
def D.plain:D→Option Value
 | .v x=>some x
 | .agg cs=>(D.rJ cs).map fun vs=> .agg vs.toArray
 |_=>none
where
 D.rJ:List D→Option (List Value)
 |[]=>some []
 |d::ds=>match d with
  | .v x=>(D.rJ ds).map (x::·)
  |_=>none
abbrev D.rJ:=D.plain.D.rJ
def D.l7:Value→D
 | .agg cs=> .agg (cs.toList.map D.v)
 | .tuple cs=> .bF (cs.toList.map D.v)
 |x=> .v x
theorem aF.plain {w:World} {A:Nat→Prop} {β:Env}:∀ (cs:List D) (vs us:List Value),D.rJ cs=some vs→aF w A β cs us→us=vs
 |[],vs,us,h,r=>by
  simp[D.plain.D.rJ] at h;subst h
  simpa [aF] using r
 | .v x::ds,vs,us,h,r=>by
  simp only[D.plain.D.rJ,Option.map_eq_some_iff] at h
  obtain⟨ys,h1,rfl⟩:=h
  simp only[aF,Rep,aC] at r
  obtain⟨y,xs,rfl,rfl,r2⟩:=r
  rw[aF.plain ds ys xs h1 r2]
 | .yld::_,_,_,h,_ | .undef::_,_,_,h,_ | .emp::_,_,_,h,_ | .sh ..::_,_,_,h,_ | .ow ..::_,_,_,h,_ | .sl ..::_,_,_,h,_ | .ptr ..::_,_,_,h,_ | .pel ..::_,_,_,h,_ | .rc ..::_,_,_,h,_ | .oc ..::_,_,_,h,_ | .shp ..::_,_,_,h,_ | .fn ..::_,_,_,h,_
 | .agg ..::_,_,_,h,_ | .bF ..::_,_,_,h,_=>by simp[D.plain.D.rJ] at h
theorem Rep.plain {w:World} {A:Nat→Prop} {β:Env} {d:D} {v u:Value} (h:d.plain=some v) (r:Rep w A β d u):u=v:=by
 cases d with
 |v x=>simp[D.plain] at h;simp[Rep,aC] at r;rw[r,h]
 |agg cs=>
  simp only[D.plain,Option.map_eq_some_iff] at h
  obtain⟨vs,h1,rfl⟩:=h
  simp only[Rep] at r
  obtain⟨us,rfl,r⟩:=r
  rw[aF.plain cs vs us h1 r]
 |_=>simp[D.plain] at h
theorem aF.l7 {w:World} {A:Nat→Prop} {β:Env}:∀ (vs:List Value),aF w A β (vs.map D.v) vs
 |[]=>by simp[aF]
 |x::xs=>by simp only[List.map_cons,aF];exact⟨x,xs,rfl,by simp[Rep,aC],aF.l7 xs⟩
theorem Rep.l7 {w:World} {A:Nat→Prop} {β:Env} (v:Value):Rep w A β (D.l7 v) v:=by
 cases v with
 |agg cs=>simp only[D.l7,Rep];exact⟨cs.toList,rfl,aF.l7 _⟩
 |tuple cs=>simp only[D.l7,Rep];exact⟨cs.toList,rfl,aF.l7 _⟩
 |_=>simp[D.l7,Rep,aC]
structure Fr where
 nt:Nat
 tm:Nat→D
inductive vK where
 |ready
 |busy
 |done (c:Code)
def vK.state:vK→LoopState
 | .ready=> .ready
 | .busy=> .busy
 | .done _=> .done
def vK.jump:vK→Option Code
 | .done c=>some c
 |_=>none
structure jK where
 ps:Array Tmp
 assign:Code
 body:Code
 depth:Nat
 state:vK
structure St where
 fr:Fr
 stk:List Fr
 bk:Nat→Option dR
 loop:Option jK:=none
def Fr.put (f:Fr) (t:Nat) (d:D):Fr:={ f with tm:=fun i=>if i=t then(if t<f.nt then d else .undef) else f.tm i }
def St.put (σ:St) (dst:Option Tmp) (d:D):St:=
 match dst with
 |some t=>{ σ with fr:=σ.fr.put t d }
 |none=>σ
def D.forget (id:Nat) (d:D):D:=if d.has id then .undef else d
def Fr.forget (id:Nat) (f:Fr):Fr:={ f with tm:=fun t=>(f.tm t).forget id }
def dR.forget (id:Nat) (b:dR):dR:={ b with cells:=b.cells.map (D.forget id) }
def St.forget (id:Nat) (σ:St):St:=
 { fr:=σ.fr.forget id,stk:=σ.stk.map (Fr.forget id),bk:=fun i=>if i=id then none else(σ.bk i).map (dR.forget id),loop:=if id=dI then none else σ.loop }
def St.setB (σ:St) (id:Nat) (b:dR):St:={ σ with bk:=fun i=>if i=id then some b else σ.bk i }
def aZ (w:World) (A:Nat→Prop) (β:Env):List D→Addr→Prop
 |[],_=>True
 |d::ds,ad=>(∃ u,w.cell? ad=some u∧Rep w A β d u)∧aZ w A β ds (aG ad 1)
structure jE (w:World) (A:Nat→Prop) (β:Env) (f:Fr) (tmps:Array Value):Prop where
 nt:f.nt=tmps.size
 tm:∀ t,Rep w A β (f.tm t) (tmps.getD t Go.undef)
inductive gU (w:World) (A:Nat→Prop) (β:Env):List Fr→List (Array Value)→Prop
 |nil:gU w A β [] []
 |cons {f:Fr} {fs:List Fr} {a:Array Value} {as:List (Array Value)}:jE w A β f a→gU w A β fs as→gU w A β (f::fs) (a::as)
structure oQ (w:World) (A:Nat→Prop) (β:Env) (base:Nat) (b:dR) (ad:Addr):Prop where
 spot:ad.spot=none
 base:base≤ad.block
 obj:∃ c T,w.heap[ad.block]? =some (.cells c T (0,0))
 cells:aZ w A β b.cells ad
 own:b.ro=false→¬ A ad.block
 shared:b.ro=true→A ad.block
 inside:∀ c T,w.heap[ad.block]? =some (.cells c T (0,0))→ad.off≤c.size
def xC (w:World) (A:Nat→Prop):Prop:=∀ g,gB.g g≠[]→A g∧bC w A (gB.g g) ⟨g,0,none⟩
theorem xC.mono {w w':World} {A A':Nat→Prop} (hs:∀ k,A k→w'.heap[k]? =w.heap[k]?) (hA:∀ k,A k→A' k) (h:xC w A):xC w' A':=
 fun g hg=>⟨hA _ (h g hg).1,bC.mono hs hA _ _ (h g hg).1 (h g hg).2⟩
theorem xC.grow {w:World} {A A':Nat→Prop} (hA:∀ k,A k→A' k) (h:xC w A):xC w A':=h.mono (fun _ _=>rfl) hA
def gK (w:World) (A:Nat→Prop) (β:Env) (base:Nat):Option jK→List (Array Value)→Prop
 |none,_=>True
 |some L,acts=>∃ l D fn tmps pre post,β dI=some ⟨l,0,none⟩∧acts=pre ++ tmps::#[.int .i64 (l:Int)]::post∧post.length+2=L.depth∧
   w.heap[l]? =some (.loop { state:=L.state.state,pending:=L.state.jump,fn:=fn,tmps:=tmps,params:=L.ps,assign:=L.assign,body:=L.body,defers:=D })∧¬ A l∧base≤l
theorem gK.mono {w w':World} {A A':Nat→Prop} {β β':Env} {base:Nat} {L:Option jK} {acts:List (Array Value)} (ho:Gi w w') (hn:New A A' w) (hβ:L≠none→β' dI=β dI) (h:gK w A β base L acts):gK w' A' β' base L acts:=by
 cases L with
 |none=>trivial
 |some L=>
  obtain⟨l,D,fn,tmps,pre,post,h1,h2,h3,h4,h5,h6⟩:=h
  exact⟨l,D,fn,tmps,pre,post,(hβ (by simp)).trans h1,h2,h3,ho _ _ h4 rfl,fun ha=>h5 (hn _ _ h4 rfl ha),h6⟩
structure Rel (w:World) (A:Nat→Prop) (β:Env) (base:Nat) (σ:St) (tmps:Array Value) (acts:List (Array Value)):Prop where
 fr:jE w A β σ.fr tmps
 stk:gU w A β σ.stk acts
 blk:∀ id b,σ.bk id=some b→(β id=none∧b.cells=[])∨∃ ad,β id=some ad∧oQ w A β base b ad
 inj:∀ i j a b,σ.bk i≠none→σ.bk j≠none→β i=some a→β j=some b→a.block=b.block→i=j
 low:∀ k,A k→k<w.heap.size
 top:base≤w.heap.size
 glo:xC w A
 lp:gK w A β base σ.loop acts
structure Turn (A A':Nat→Prop) (base:Nat) (w w':World):Prop where
 ext:Ext A w w'
 grows:∀ k,A k→A' k
 below:Below base w w'
 old:∀ k,A' k→k<base→A k
 side:Side A A' w w'
theorem Turn.refl (A:Nat→Prop) (base:Nat) (w:World):Turn A A base w w:=⟨.refl _ _,fun _ h=>h, .refl _ _,fun _ h _=>h, .refl _ _⟩
theorem Turn.trans {A A' A'':Nat→Prop} {base:Nat} {a b c:World} (h:Turn A A' base a b) (k:Turn A' A'' base b c):Turn A A'' base a c:=
 ⟨h.ext.trans k.ext h.grows,fun x hx=>k.grows x (h.grows x hx),h.below.trans k.below,fun x hx hl=>h.old x (k.old x hx hl) hl,h.side.trans k.side⟩
theorem aZ.mono {w w':World} {A A':Nat→Prop} {β β':Env} (hx:Ext A w w') (hA:∀ k,A k→A' k):∀ (cs:List D) (ad:Addr),w'.heap[ad.block]? =w.heap[ad.block]?→
  (∀ id,D.bQ id cs=true→β' id=β id)→aZ w A β cs ad→aZ w' A' β' cs ad
 |[],_,_,_,_=>trivial
 |d::ds,ad,hs,hb,h=>by
  obtain⟨⟨u,h1,h2⟩,h3⟩:=h
  exact⟨⟨u,(jP hs).trans h1,Rep.mono hx hA d u (fun id h=>hb id (by simp[D.bQ,h])) h2⟩,aZ.mono hx hA ds (aG ad 1) hs (fun id h=>hb id (by simp[D.bQ,h])) h3⟩
theorem jE.mono {w w':World} {A A':Nat→Prop} {β β':Env} (hx:Ext A w w') (hA:∀ k,A k→A' k) {f:Fr} {tmps:Array Value} (hb:∀ t id,(f.tm t).has id=true→β' id=β id) (h:jE w A β f tmps):jE w' A' β' f tmps:=
 ⟨h.nt,fun t=>Rep.mono hx hA _ _ (hb t) (h.tm t)⟩
theorem gU.mono {w w':World} {A A':Nat→Prop} {β β':Env} (hx:Ext A w w') (hA:∀ k,A k→A' k):∀ {fs:List Fr} {as:List (Array Value)},(∀ f∈fs,∀ t id,(f.tm t).has id=true→β' id=β id)→gU w A β fs as→gU w' A' β' fs as
 |[],[],_,_=> .nil
 |f::fs,a::as,hb,h=>by
  cases h with
  |cons h1 h2=>exact .cons (jE.mono hx hA (hb f (by simp)) h1) (gU.mono hx hA (fun g hg=>hb g (by simp[hg])) h2)
theorem D.FQ (id:Nat) (d:D):(d.forget id).has id=false:=by
 unfold D.forget;split
 ·rfl
 ·next h=>simpa using h
theorem D.fB {id j:Nat} {d:D} (h:(d.forget id).has j=true):d.has j=true∧j≠id:=by
 unfold D.forget at h;split at h
 ·simp[D.has] at h
 ·refine⟨h,fun e=>?_⟩;subst e;contradiction
theorem D.gV {id j:Nat}:∀ {cs:List D},D.bQ j (cs.map (D.forget id))=true→D.bQ j cs=true∧j≠id
 |[],h=>by simp[D.bQ] at h
 |d::ds,h=>by
  simp only[List.map_cons,D.bQ,Bool.or_eq_true] at h ⊢
  rcases h with h | h
  ·exact⟨.inl (D.fB h).1,(D.fB h).2⟩
  ·exact⟨.inr (D.gV h).1,(D.gV h).2⟩
theorem Rep.forget {w:World} {A:Nat→Prop} {β:Env} {d:D} {u:Value} (id:Nat) (h:Rep w A β d u):Rep w A β (d.forget id) u:=by
 unfold D.forget;split
 ·simp[Rep,aC]
 ·exact h
theorem aZ.forget {w:World} {A:Nat→Prop} {β:Env} (id:Nat):∀ {cs:List D} {ad:Addr},aZ w A β cs ad→aZ w A β (cs.map (D.forget id)) ad
 |[],_,_=>trivial
 |_::_,_,⟨⟨u,h1,h2⟩,h3⟩=>⟨⟨u,h1,h2.forget id⟩,aZ.forget id h3⟩
theorem jE.forget {w:World} {A:Nat→Prop} {β:Env} {f:Fr} {a:Array Value} (id:Nat) (h:jE w A β f a):jE w A β (f.forget id) a:=⟨h.nt,fun t=>(h.tm t).forget id⟩
theorem gU.forget {w:World} {A:Nat→Prop} {β:Env} (id:Nat):∀ {fs:List Fr} {as:List (Array Value)},gU w A β fs as→gU w A β (fs.map (Fr.forget id)) as
 |_,_, .nil=> .nil
 |_,_, .cons h t=> .cons (h.forget id) (t.forget id)
theorem oQ.forget {w:World} {A:Nat→Prop} {β:Env} {base:Nat} {b:dR} {ad:Addr} (id:Nat) (h:oQ w A β base b ad):oQ w A β base (b.forget id) ad:=
 ⟨h.spot,h.base,h.obj,h.cells.forget id,h.own,h.shared,h.inside⟩
theorem Rel.forget {w:World} {A:Nat→Prop} {β:Env} {base:Nat} {σ:St} {tmps:Array Value} {acts:List (Array Value)} (h:Rel w A β base σ tmps acts) (id:Nat):Rel w A β base (σ.forget id) tmps acts where
 fr:=h.fr.forget id
 stk:=h.stk.forget id
 blk:=fun i b hb=>by
  simp only[St.forget] at hb
  split at hb
  ·simp at hb
  ·simp only[Option.map_eq_some_iff] at hb
   obtain⟨b0,hb0,rfl⟩:=hb
   rcases h.blk i b0 hb0 with⟨h1,h2⟩ | ⟨ad,h1,h2⟩
   ·exact .inl ⟨h1,by simp[dR.forget,h2]⟩
   ·exact .inr ⟨ad,h1,h2.forget id⟩
 inj:=fun i j a b hi hj=>h.inj i j a b (fun e=>hi (by simp only[St.forget];split<;>simp[e])) (fun e=>hj (by simp only[St.forget];split<;>simp[e]))
 low:=h.low
 top:=h.top
 glo:=h.glo
 lp:=by
  show gK w A β base (if id=dI then none else σ.loop) acts
  split
  ·trivial
  ·exact h.lp
theorem Rel.carry {w w':World} {A A':Nat→Prop} {β β':Env} {base:Nat} {σ:St} {tmps:Array Value} {acts:List (Array Value)} (h:Rel w A β base σ tmps acts)
  (hx:Ext A w w') (hA:∀ k,A k→A' k) (low:∀ k,A' k→k<w'.heap.size) (top:base≤w'.heap.size)
  (hfr:∀ t id,(σ.fr.tm t).has id=true→β' id=β id) (hstk:∀ f∈σ.stk,∀ t id,(f.tm t).has id=true→β' id=β id)
  (hbk:∀ i b,σ.bk i=some b→β' i=β i∧(∀ id,D.bQ id b.cells=true→β' id=β id)∧∀ ad,β i=some ad→w'.heap[ad.block]? =w.heap[ad.block]?∧(A' ad.block→A ad.block))
  (hlp:gK w' A' β' base σ.loop acts):Rel w' A' β' base σ tmps acts where
 fr:=h.fr.mono hx hA hfr
 stk:=h.stk.mono hx hA hstk
 blk:=fun i b hb=>by
  obtain⟨h1,h2,h3⟩:=hbk i b hb
  rcases h.blk i b hb with⟨h4,h5⟩ | ⟨ad,h4,h5⟩
  ·exact .inl ⟨h1.trans h4,h5⟩
  ·obtain⟨h6,h7⟩:=h3 ad h4
   exact .inr ⟨ad,h1.trans h4,⟨h5.spot,h5.base,by rw[h6];exact h5.obj,aZ.mono hx hA _ _ h6 h2 h5.cells,fun hr ha=>h5.own hr (h7 ha),fun hr=>hA _ (h5.shared hr),fun c T h8=>h5.inside c T (by rw[←h6];exact h8)⟩⟩
 inj:=fun i j a b hi hj ha hb=>by
  obtain⟨bi,hbi⟩:=Option.ne_none_iff_exists'.1 hi
  obtain⟨bj,hbj⟩:=Option.ne_none_iff_exists'.1 hj
  rw[(hbk i bi hbi).1] at ha
  rw[(hbk j bj hbj).1] at hb
  exact h.inj i j a b hi hj ha hb
 low:=low
 top:=top
 glo:=h.glo.mono hx.same hA
 lp:=hlp
theorem jE.put {w:World} {A:Nat→Prop} {β:Env} {f:Fr} {a:Array Value} (h:jE w A β f a) {d:D} {u:Value} (t:Nat) (hd:Rep w A β d u):jE w A β (f.put t d) (a.setIfInBounds t u):=by
 refine⟨by simp[Fr.put,h.nt],fun i=>?_⟩
 simp only[Fr.put]
 by_cases e:i=t
 ·subst e
  rw[if_pos rfl]
  by_cases hl:i<f.nt
  ·rw[if_pos hl]
   rw[h.nt] at hl
   simp[hl];exact hd
  ·rw[if_neg hl];simp[Rep,aC]
 ·rw[if_neg e]
  have:=h.tm i
  rw[Array.getD_eq_getD_getElem?,Array.getElem?_setIfInBounds_ne (Ne.symm e),←Array.getD_eq_getD_getElem?]
  exact this
theorem Rel.put {w:World} {A:Nat→Prop} {β:Env} {base:Nat} {σ:St} {tmps:Array Value} {acts:List (Array Value)} (h:Rel w A β base σ tmps acts) {d:D} {u:Value} (dst:Option Tmp) (hd:Rep w A β d u):
  Rel w A β base (σ.put dst d) (match dst with | some t=>tmps.setIfInBounds t u | none=>tmps) acts:=by
 cases dst with
 |none=>exact h
 |some t=>exact⟨h.fr.put t hd,h.stk,h.blk,h.inj,h.low,h.top,h.glo,h.lp⟩
end Go.Dam
end

section
namespace Go.Dam
open Go Go.RowKit
variable [gB]
theorem Result.su {α γ:Type} {r:Result α} {f:α→World→Result γ} {b:γ} {w':World} (h:r.andThen f= .ok b w'):∃ a w1,r= .ok a w1∧f a w1= .ok b w':=by
 cases r with
 |ok a w1=>exact⟨a,w1,rfl,h⟩
 |halt x w1=>cases h
theorem aZ.get {w:World} {A:Nat→Prop} {β:Env}:∀ {cs:List D} {ad:Addr},ad.spot=none→aZ w A β cs ad→∀ (j:Nat) (d:D),cs[j]? =some d→∃ u,w.cell? (aG ad j)=some u∧Rep w A β d u
 |[],_,_,_,_,_,h=>by simp at h
 |d::ds,ad,hs,h,0,e,he=>by
  simp at he;subst he
  obtain⟨⟨u,h1,h2⟩,_⟩:=h
  refine⟨u,?_,h2⟩
  rw[←h1];congr 1;cases ad;simp at hs;simp[aG,hs]
 |d::ds,ad,hs,h,j+1,e,he=>by
  obtain⟨u,h1,h2⟩:=aZ.get rfl h.2 j e (by simpa using he)
  refine⟨u,?_,h2⟩
  rw[dh] at h1;rw[Nat.add_comm j 1];exact h1
theorem aZ.nS {w:World} {A:Nat→Prop} {β:Env}:∀ {cs:List D} {ad:Addr},ad.spot=none→(∀ (j:Nat) (d:D),cs[j]? =some d→∃ u,w.cell? (aG ad j)=some u∧Rep w A β d u)→aZ w A β cs ad
 |[],_,_,_=>trivial
 |d::ds,ad,hs,h=>by
  refine⟨?_,aZ.nS rfl fun j e he=>?_⟩
  ·obtain⟨u,h1,h2⟩:=h 0 d (by simp)
   refine⟨u,?_,h2⟩
   rw[←h1];congr 1;cases ad;simp at hs;simp[aG,hs]
  ·obtain⟨u,h1,h2⟩:=h (j+1) e (by simpa using he)
   refine⟨u,?_,h2⟩
   rw[dh,Nat.add_comm 1 j];exact h1
theorem bC.tK {w:World} {A:Nat→Prop} {β:Env} (hR:∀ d u,aC w A d u→Rep w A β d u):∀ {cs:List D} {ad:Addr},bC w A cs ad→aZ w A β cs ad
 |[],_,_=>trivial
 |_::_,_,h=>by
  simp only[bC] at h
  obtain⟨⟨u,h1,h2⟩,h3⟩:=h
  exact⟨⟨u,h1,hR _ _ h2⟩,bC.tK hR h3⟩
mutual
theorem aC.rep {w:World} {A:Nat→Prop} {β:Env}:∀ (d:D) (u:Value),aC w A d u→Rep w A β d u
 | .undef,_,h=>by simpa [Rep] using h
 | .v _,_,h=>by simpa [Rep] using h
 | .yld,_,h=>by simp[aC] at h
 | .sh _ _,_,h=>by simpa [Rep] using h
 | .shp _ _,_,h=>by simpa [Rep] using h
 | .emp,_,h=>by simpa [Rep] using h
 | .rc _,_,h=>by simp only[Rep];exact h
 | .oc _,_,h=>by simpa [Rep] using h
 | .pel _ _ _ _,_,h=>by simp[aC] at h
 | .ow _ _ _,_,h=>by simpa [Rep] using h
 | .sl _ _ _ _,_,h=>by simp[aC] at h
 | .ptr _ _,_,h=>by simp[aC] at h
 | .agg cs,u,h=>by
  simp only[aC] at h;simp only[Rep]
  obtain⟨vs,rfl,h⟩:=h
  exact⟨vs,rfl,dD.MI cs vs h⟩
 | .bF cs,u,h=>by
  simp only[aC] at h;simp only[Rep]
  obtain⟨vs,rfl,h⟩:=h
  exact⟨vs,rfl,dD.MI cs vs h⟩
 | .fn f cs,u,h=>by
  simp only[aC] at h;simp only[Rep]
  obtain⟨vs,rfl,h⟩:=h
  exact⟨vs,rfl,dD.MI cs vs h⟩
theorem dD.MI {w:World} {A:Nat→Prop} {β:Env}:∀ (cs:List D) (vs:List Value),dD w A cs vs→aF w A β cs vs
 |[],_,h=>by simpa [dD,aF] using h
 |d::ds,vs,h=>by
  simp only[dD] at h;simp only[aF]
  obtain⟨x,xs,rfl,h1,h2⟩:=h
  exact⟨x,xs,rfl,aC.rep d x h1,dD.MI ds xs h2⟩
end
theorem bC.drop {w:World} {A:Nat→Prop}:∀ {cs:List D} {ad:Addr},ad.spot=none→∀ n,bC w A cs ad→bC w A (cs.drop n) (aG ad n)
 |cs,ad,hs,0,h=>by
  have:aG ad 0=ad:=by cases ad;simp at hs;simp[aG,hs]
  rw[this];simpa using h
 |[],_,_,_+1,_=>by simp[bC]
 |d::ds,ad,hs,n+1,h=>by
  simp only[bC] at h
  have:=bC.drop (ad:=aG ad 1) rfl n h.2
  rw[dh,Nat.add_comm 1 n] at this
  simpa using this
theorem bC.take {w:World} {A:Nat→Prop}:∀ {cs:List D} {ad:Addr} (n:Nat),bC w A cs ad→bC w A (cs.take n) ad
 |_,_,0,_=>by simp[bC]
 |[],_,_+1,_=>by simp[bC]
 |d::ds,ad,n+1,h=>by
  simp only[bC,List.take_succ_cons] at h ⊢
  exact⟨h.1,bC.take n h.2⟩
theorem aF.get {w:World} {A:Nat→Prop} {β:Env}:∀ {cs:List D} {vs:List Value},aF w A β cs vs→∀ (j:Nat) (d:D),cs[j]? =some d→∃ u,vs[j]? =some u∧Rep w A β d u
 |[],_,_,_,_,h=>by simp at h
 |d::ds,vs,h,j,e,he=>by
  simp only[aF] at h
  obtain⟨x,xs,rfl,h1,h2⟩:=h
  cases j with
  |zero=>simp at he;subst he;exact⟨x,by simp,h1⟩
  |succ j=>simpa using aF.get h2 j e (by simpa using he)
theorem aF.nS {w:World} {A:Nat→Prop} {β:Env}:∀ {cs:List D} {vs:List Value},cs.length=vs.length→(∀ (j:Nat) (d:D),cs[j]? =some d→∃ u,vs[j]? =some u∧Rep w A β d u)→aF w A β cs vs
 |[],vs,hl,_=>by simp at hl;simp[aF,List.length_eq_zero_iff.1 hl.symm]
 |d::ds,[],hl,_=>by simp at hl
 |d::ds,x::xs,hl,h=>by
  simp only[aF]
  refine⟨x,xs,rfl,?_,aF.nS (by simpa using hl) fun j e he=>?_⟩
  ·obtain⟨u,h1,h2⟩:=h 0 d (by simp);simp at h1;subst h1;exact h2
  ·simpa using h (j+1) e (by simpa using he)
theorem aF.length {w:World} {A:Nat→Prop} {β:Env}:∀ {cs:List D} {vs:List Value},aF w A β cs vs→vs.length=cs.length
 |[],vs,h=>by simp[aF] at h;simp[h]
 |d::ds,vs,h=>by
  simp only[aF] at h
  obtain⟨x,xs,rfl,_,h2⟩:=h
  simp[aF.length h2]
theorem aF.append {w:World} {A:Nat→Prop} {β:Env}:∀ {cs ds:List D} {vs us:List Value},aF w A β cs vs→aF w A β ds us→aF w A β (cs ++ ds) (vs ++ us)
 |[],_,vs,_,h,k=>by simp[aF] at h;subst h;simpa using k
 |d::cs,_,vs,_,h,k=>by
  simp only[aF,List.cons_append] at h ⊢
  obtain⟨x,xs,rfl,h1,h2⟩:=h
  exact⟨x,xs ++ _,rfl,h1,aF.append h2 k⟩
theorem aF.take {w:World} {A:Nat→Prop} {β:Env} {cs:List D} {vs:List Value} (n:Nat) (h:aF w A β cs vs):aF w A β (cs.take n) (vs.take n):=by
 induction n generalizing cs vs with
 |zero=>simp[aF]
 |succ n ih=>
  cases cs with
  |nil=>simp[aF] at h;subst h;simp[aF]
  |cons d ds=>
   simp only[aF] at h
   obtain⟨x,xs,rfl,h1,h2⟩:=h
   simp only[List.take_succ_cons,aF]
   exact⟨x,_,rfl,h1,ih h2⟩
theorem aF.drop {w:World} {A:Nat→Prop} {β:Env} {cs:List D} {vs:List Value} (n:Nat) (h:aF w A β cs vs):aF w A β (cs.drop n) (vs.drop n):=by
 induction n generalizing cs vs with
 |zero=>simpa using h
 |succ n ih=>
  cases cs with
  |nil=>simp[aF] at h;subst h;simp[aF]
  |cons d ds=>
   simp only[aF] at h
   obtain⟨x,xs,rfl,h1,h2⟩:=h
   simpa using ih h2
theorem ni {w:World} {A:Nat→Prop} {β:Env} (P:Program) {ad:Addr} (hs:ad.spot=none):∀ (n i:Nat) (cs:List D) (acc:Array Value),
  (∀ (j:Nat) (d:D),cs[j]? =some d→∃ u,w.cell? (aG ad (i+j))=some u∧Rep w A β d u)→cs.length=n→
  ∃ vs:List Value,(loadCellsFrom ad i n acc).run P w= .ok (acc ++ vs.toArray) w∧aF w A β cs vs
 |0,i,cs,acc,_,hl=>by
  have:cs=[]:=List.length_eq_zero_iff.1 hl
  subst this
  exact⟨[],by simp[loadCellsFrom],by simp[aF]⟩
 |n+1,i,[],acc,_,hl=>by simp at hl
 |n+1,i,d::ds,acc,h,hl=>by
  obtain⟨u,h1,h2⟩:=h 0 d (by simp)
  obtain⟨vs,h3,h4⟩:=ni P hs n (i+1) ds (acc.push u) (fun j e he=>by
   obtain⟨u,k1,k2⟩:=h (j+1) e (by simpa using he)
   exact⟨u,by rw[←k1];congr 2;omega,k2⟩) (by simpa using hl)
  refine⟨u::vs,?_,by simp only[aF];exact⟨u,vs,rfl,h2,h4⟩⟩
  simp only[loadCellsFrom,Sem.run_bind,run_load]
  rw[cO _ _ hs]
  have h1':w.cell? (aG ad i)=some u:=h1
  rw[h1']
  simp only[Result.andThen_ok,h3]
  simp
theorem nC {w:World} {A:Nat→Prop} {β:Env} (P:Program) {ad:Addr} (hs:ad.spot=none) {cs:List D} (h:aZ w A β cs ad):
  ∃ vs:List Value,(loadCells ad cs.length).run P w= .ok vs.toArray w∧aF w A β cs vs:=by
 obtain⟨vs,h1,h2⟩:=ni P hs cs.length 0 cs #[] (fun j d hj=>by simpa using h.get hs j d hj) rfl
 exact⟨vs,by simpa [loadCells] using h1,h2⟩
def putAt (c:Array Value) (i:Nat):List Value→Array Value
 |[]=>c
 |u::us=>putAt (c.setIfInBounds i u) (i+1) us
theorem jA:∀ (us:List Value) (c:Array Value) (i:Nat),(putAt c i us).size=c.size
 |[],_,_=>rfl
 |u::us,c,i=>by simp[putAt,jA us]
theorem uo:∀ (us:List Value) (c:Array Value) (i j:Nat),i+us.length≤c.size→(putAt c i us)[j]? =if i≤j∧j<i+us.length then us[j - i]? else c[j]?
 |[],c,i,j,_=>by simp[putAt];omega
 |u::us,c,i,j,h=>by
  simp only[List.length_cons] at h ⊢
  rw[putAt,uo us _ (i+1) j (by simp;omega)]
  by_cases e:i=j
  ·subst e
   rw[if_neg (by omega),if_pos (by omega)]
   have hi:i<c.size:=by omega
   simp[hi]
  ·by_cases h1:i+1≤j∧j<i+1+us.length
   ·rw[if_pos h1,if_pos (by omega)]
    rw[show j - i=(j - (i+1))+1 from by omega];simp
   ·rw[if_neg h1,if_neg (by omega)]
    simp[Array.getElem?_setIfInBounds_ne e]
theorem fZ {w:World} {b o:Nat} {c:Array Value} {T:TypeId} {fz:Nat×Nat} (h:w.heap[b]? =some (.cells c T fz)):w.cell? ⟨b,o,none⟩=c[o]? :=by
 simp[World.cell?,h]
theorem mP (P:Program) (b T:Nat):∀ (us:List Value) (w:World) (c:Array Value) (off i:Nat),w.heap[b]? =some (.cells c T (0,0))→(∀ u∈us,u.oneCell'=true)→off+i+us.length≤c.size→
  ∃ w',(storeCells ⟨b,off,none⟩ us i).run P w= .ok () w'∧w'.heap[b]? =some (.cells (putAt c (off+i) us) T (0,0))∧(∀ k,k≠b→w'.heap[k]? =w.heap[k]?)∧
   w'.os=w.os∧w'.tape=w.tape∧w'.output=w.output∧w'.heap.size=w.heap.size
 |[],w,c,off,i,h,_,_=>⟨w,by simp[storeCells],by simpa [putAt] using h,fun _ _=>rfl,rfl,rfl,rfl,rfl⟩
 |u::us,w,c,off,i,h,ho,hl=>by
  simp only[List.length_cons] at hl
  have hcell:w.cell? ⟨b,off+i,none⟩=c[off+i]? :=fZ h
  have hlt:off+i<c.size:=by omega
  have hset:(w.setCell ⟨b,off+i,none⟩ u).heap[b]? =some (.cells (c.setIfInBounds (off+i) u) T (0,0)):=by
   simp[World.setCell,Array.getElem?_modify,h]
  obtain⟨w',h1,h2,h3,h4,h5,h6,h7⟩:=mP P b T us (w.setCell ⟨b,off+i,none⟩ u) (c.setIfInBounds (off+i) u) off (i+1) hset (fun x hx=>ho x (by simp[hx])) (by simp;omega)
  refine⟨w',?_,by rw[h2];simp[putAt,Nat.add_assoc],fun k hk=>?_,?_⟩
  ·simp only[storeCells,Sem.run_bind]
   rw[cO _ _ rfl,run_store _ _ _ _ _ (ho u (by simp))]
   have e1:w.cell? (aG ⟨b,off,none⟩ i)=some c[off+i]:=by
    show w.cell? ⟨b,off+i,none⟩=_
    rw[hcell,Array.getElem?_eq_getElem hlt]
   have e2:w.frozen? (aG ⟨b,off,none⟩ i)=false:=by simp[World.frozen?,aG,h]
   rw[e1,e2]
   simp only[Result.andThen_ok]
   exact h1
  ·rw[h3 k hk];exact Below.heap_setCell _ _ _ _ hk
  ·exact⟨h4.trans rfl,h5.trans rfl,h6.trans rfl,h7.trans (by simp)⟩
end Go.Dam
end

section
namespace Go.Dam
open Go Go.RowKit
variable [gB]
section
variable {w w':World} {A:Nat→Prop} {β:Env} {base:Nat} {σ:St} {tmps:Array Value} {acts:List (Array Value)}
theorem Ext.of_heap (h:w'.heap=w.heap):Ext A w w':=⟨fun k _=>by rw[h],fun b m ⟨c,T,fz,h1,h2⟩=>⟨c,T,fz,by rw[h];exact h1,h2⟩⟩
theorem Rel.uG (h:Rel w A β base σ tmps acts) (e:w'.heap=w.heap):Rel w' A β base σ tmps acts:=
 h.carry (.of_heap e) (fun _ h=>h) (fun k hk=>by rw[e];exact h.low k hk) (by rw[e];exact h.top) (fun _ _ _=>rfl) (fun _ _ _ _ _=>rfl) (fun i b hb=>⟨rfl,fun _ _=>rfl,fun ad _=>⟨by rw[e],fun x=>x⟩⟩) (h.lp.mono (.of_heap e) (.refl _ _) (fun _=>rfl))
theorem Rel.E8 {cs:List D} {vs:List Value} (h:aF w A β cs vs):aF w.drew A β cs vs:=aF.mono (w:=w) (w':=w.drew) (.of_heap rfl) (fun _ h=>h) _ _ (fun _ _=>rfl) h
theorem Turn.of_heap (e:w'.heap=w.heap) (h1:w'.os=w.os) (h2:w'.tape=w.tape) (h3:w'.output=w.output):Turn A A base w w':=
 ⟨.of_heap e,fun _ h=>h,⟨h1,h2,h3,by rw[e];exact Nat.le_refl _,fun k _=>by rw[e]⟩,fun _ h _=>h, .strict (.of_heap e) (.refl _ _)⟩
theorem Gi.alloc (w:World) (o:Obj):Gi w (w.alloc o):=fun k o' hk _=>(Below.heap_alloc w o k (Array.getElem?_eq_some_iff.1 hk).1).trans hk
theorem Ext.alloc (hA:∀ k,A k→k<w.heap.size) (o:Obj):Ext A w (w.alloc o):=
 ⟨fun k hk=>Below.heap_alloc _ _ _ (hA k hk),fun b m ⟨c,T,fz,h1,h2⟩=>⟨c,T,fz,by
  have:b<w.heap.size:=by
   rcases Nat.lt_or_ge b w.heap.size with h | h
   ·exact h
   ·rw[Array.getElem?_eq_none h] at h1;cases h1
  rw[Below.heap_alloc _ _ _ this];exact h1,h2⟩⟩
theorem Turn.alloc (h:Rel w A β base σ tmps acts) (o:Obj):Turn A A base w (w.alloc o):=
 ⟨.alloc h.low o,fun _ h=>h,(Below.refl _ _).alloc h.top o,fun _ h _=>h, .strict (.alloc w o) (.refl _ _)⟩
theorem Rel.afD (h:Rel w A β base σ tmps acts) (o:Obj):Rel (w.alloc o) A β base σ tmps acts:=
 h.carry (.alloc h.low o) (fun _ h=>h) (fun k hk=>by have:=h.low k hk;simp;omega) (by have:=h.top;simp;omega) (fun _ _ _=>rfl) (fun _ _ _ _ _=>rfl)
  (fun i b hb=>⟨rfl,fun _ _=>rfl,fun ad ha=>⟨Below.heap_alloc _ _ _ (by
   rcases h.blk i b hb with⟨h1,_⟩ | ⟨ad',h1,hB⟩
   ·rw[ha] at h1;cases h1
   ·rw[ha] at h1;cases h1
    obtain⟨c,T,hobj⟩:=hB.obj
    exact(Array.getElem?_eq_some_iff.1 hobj).1),fun x=>x⟩⟩) (h.lp.mono (.alloc w o) (.refl _ _) (fun _=>rfl))
def Env.set (β:Env) (id:Nat) (ad:Option Addr):Env:=fun i=>if i=id then ad else β i
theorem Env.bU (β:Env) (id:Nat) (ad:Option Addr):β.set id ad id=ad:=by simp[Env.set]
theorem Env.dG (β:Env) {id i:Nat} (ad:Option Addr) (h:i≠id):β.set id ad i=β i:=by simp[Env.set,h]
theorem Rel.rebind (h:Rel w A β base σ tmps acts) (id:Nat) (oa:Option Addr) (hx:Ext A w w') (top:base≤w'.heap.size) (low:w.heap.size≤w'.heap.size) (ho:Gi w w')
  (hb:∀ i b ad,i≠id→σ.bk i=some b→β i=some ad→w'.heap[ad.block]? =w.heap[ad.block]?):Rel w' A (β.set id oa) base (σ.forget id) tmps acts:=by
 have hf:=h.forget id
 refine hf.carry hx (fun _ h=>h) (fun k hk=>Nat.lt_of_lt_of_le (h.low k hk) low) top ?_ ?_ ?_ (hf.lp.mono ho (.refl _ _) (fun hne=>Env.dG _ _ (fun e=>hne (by show(if id=dI then none else σ.loop)=none;rw[if_pos e.symm]))))
 ·intro t i hi
  exact Env.dG _ _ (D.fB hi).2
 ·intro f hfm t i hi
  simp only[St.forget,List.mem_map] at hfm
  obtain⟨g,_,rfl⟩:=hfm
  exact Env.dG _ _ (D.fB hi).2
 ·intro i b hbi
  simp only[St.forget] at hbi
  split at hbi
  ·cases hbi
  next hne=>
   simp only[Option.map_eq_some_iff] at hbi
   obtain⟨b0,hb0,rfl⟩:=hbi
   refine⟨Env.dG _ _ hne,fun j hj=>Env.dG _ _ (D.gV hj).2,fun ad had=>⟨hb i b0 ad hne hb0 had,fun x=>x⟩⟩
theorem Rel.setB (h:Rel w A β base σ tmps acts) (id:Nat) (b:dR) (hb:(β id=none∧b.cells=[])∨∃ ad,β id=some ad∧oQ w A β base b ad)
  (hi:∀ i a ad,i≠id→σ.bk i≠none→β i=some a→β id=some ad→a.block≠ad.block):Rel w A β base (σ.setB id b) tmps acts where
 fr:=h.fr
 stk:=h.stk
 blk:=fun i c hc=>by
  simp only[St.setB] at hc
  split at hc
  next e=>subst e;simp at hc;subst hc;exact hb
  next e=>exact h.blk i c hc
 inj:=fun i j a c hi' hj' ha hc hac=>by
  by_cases e1:i=id
  ·by_cases e2:j=id
   ·rw[e1,e2]
   ·subst e1
    exact absurd hac.symm (hi j c a e2 (by simpa [St.setB,e2] using hj') hc ha)
  ·by_cases e2:j=id
   ·subst e2
    exact absurd hac (hi i a c e1 (by simpa [St.setB,e1] using hi') ha hc)
   ·exact h.inj i j a c (by simpa [St.setB,e1] using hi') (by simpa [St.setB,e2] using hj') ha hc hac
 low:=h.low
 top:=h.top
 glo:=h.glo
 lp:=h.lp
theorem aF.forget (id:Nat):∀ {cs:List D} {vs:List Value},aF w A β cs vs→aF w A β (cs.map (D.forget id)) vs
 |[],_,h=>by simpa [aF] using h
 |d::ds,vs,h=>by
  simp only[aF,List.map_cons] at h ⊢
  obtain⟨x,xs,rfl,h1,h2⟩:=h
  exact⟨x,xs,rfl,h1.forget id,aF.forget id h2⟩
theorem nG (h:Rel w A β base σ tmps acts) {i:Nat} {b:dR} {ad:Addr} (hb:σ.bk i=some b) (ha:β i=some ad):ad.block<w.heap.size:=by
 rcases h.blk i b hb with⟨h1,_⟩ | ⟨ad',h1,h2⟩
 ·rw[ha] at h1;cases h1
 ·rw[ha] at h1;cases h1
  obtain⟨c,T,ho⟩:=h2.obj
  rcases Nat.lt_or_ge ad.block w.heap.size with h | h
  ·exact h
  ·rw[Array.getElem?_eq_none h] at ho;cases ho
theorem Rel.new (h:Rel w A β base σ tmps acts) (id:Nat) (c:Array Value) (T:TypeId) (cs:List D) (vs:List Value) (hc:aF w A β cs vs) (hv:∀ (j:Nat) u,vs[j]? =some u→c[j]? =some u):
  Rel (w.alloc (.cells c T)) A (β.set id (some ⟨w.heap.size,0,none⟩)) base ((σ.forget id).setB id ⟨cs.map (D.forget id),false⟩) tmps acts:=by
 have hx:Ext A w (w.alloc (.cells c T)):= .alloc h.low _
 have h1:=h.rebind id (some ⟨w.heap.size,0,none⟩) hx (by simp;have:=h.top;omega) (by simp) (.alloc w _) (fun i b ad _ hb ha=>Below.heap_alloc _ _ _ (nG h hb ha))
 refine h1.setB id _ (.inr ⟨_,Env.bU _ _ _,⟨rfl,h.top,⟨c,T,by show(w.heap.push _)[w.heap.size]? =_;simp⟩,?_,fun _ ha=>Nat.lt_irrefl _ (h.low _ ha),fun e=>(by cases e),fun c1 T1 _=>Nat.zero_le _⟩⟩) ?_
 ·refine aZ.nS rfl fun j d hj=>?_
  simp only[List.getElem?_map,Option.map_eq_some_iff] at hj
  obtain⟨d0,hd0,rfl⟩:=hj
  obtain⟨u,hu,hr⟩:=hc.get j d0 hd0
  refine⟨u,?_,?_⟩
  ·have:(w.alloc (.cells c T)).heap[w.heap.size]? =some (.cells c T (0,0)):=by show(w.heap.push _)[w.heap.size]? =_;simp
   show World.cell? _ ⟨w.heap.size,0+j,none⟩=_
   rw[fZ this,Nat.zero_add]
   exact hv j u hu
  ·exact Rep.mono hx (fun _ h=>h) _ _ (fun i hi=>Env.dG _ _ (D.fB hi).2) (hr.forget id)
 ·intro i a ad hne hbk ha had
  rw[Env.bU] at had
  cases had
  rw[Env.dG _ _ hne] at ha
  simp only[St.forget,if_neg hne] at hbk
  obtain⟨b,hb⟩:=Option.ne_none_iff_exists'.1 hbk
  simp only[Option.map_eq_some_iff] at hb
  obtain⟨b0,hb0,_⟩:=hb
  have:=nG h hb0 ha
  intro e
  simp at e
  omega
def splice (cs:List D) (off:Nat) (ds:List D):List D:=cs.take off ++ ds ++ cs.drop (off+ds.length)
theorem vS {cs:List D} {off:Nat} {ds:List D} (h:off+ds.length≤cs.length) (j:Nat):(splice cs off ds)[j]? =if off≤j∧j<off+ds.length then ds[j - off]? else cs[j]? :=by
 unfold splice
 rcases Nat.lt_or_ge j off with h1 | h1
 ·rw[if_neg (by omega),List.append_assoc,List.getElem?_append_left (by simp;omega),List.getElem?_take,if_pos h1]
 ·rcases Nat.lt_or_ge j (off+ds.length) with h2 | h2
  ·rw[if_pos ⟨h1,h2⟩,List.append_assoc,List.getElem?_append_right (by simp;omega),List.getElem?_append_left (by simp;omega)]
   congr 1;simp;omega
  ·rw[if_neg (by omega),List.getElem?_append_right (by simp;omega),List.getElem?_drop]
   congr 1;simp;omega
theorem Rel.store (P:Program) (h:Rel w A β base σ tmps acts) {id:Nat} {cells:List D} (hb:σ.bk id=some ⟨cells,false⟩) {ad:Addr} (ha:β id=some ad) {off:Nat} {ds:List D} {vs:List Value}
  (hd:aF w A β ds vs) (ho:∀ u∈vs,u.oneCell'=true) (hl:off+ds.length≤cells.length):
  ∃ w',(storeCells (aG ad off) vs).run P w= .ok () w'∧Rel w' A β base (σ.setB id ⟨splice cells off ds,false⟩) tmps acts∧Turn A A base w w':=by
 rcases h.blk id _ hb with⟨h1,_⟩ | ⟨ad',h1,hB⟩
 ·rw[ha] at h1;cases h1
 rw[ha] at h1;cases h1
 obtain⟨c,T,hobj⟩:=hB.obj
 have hlen:=hd.length
 have hsz:ad.off+off+vs.length≤c.size:=by
  rcases Nat.eq_zero_or_pos cells.length with e | e
  ·have e1:vs.length=0:=by omega
   have e2:off=0:=by omega
   rw[e1,e2]
   have:=hB.inside c T hobj
   omega
  ·have hlast:cells.length - 1<cells.length:=by omega
   obtain⟨u,hu,_⟩:=hB.cells.get hB.spot (cells.length - 1) _ (List.getElem?_eq_getElem hlast)
   have:w.cell? (aG ad (cells.length - 1))=c[ad.off+(cells.length - 1)]? :=fZ hobj
   rw[this] at hu
   have:=(Array.getElem?_eq_some_iff.1 hu).1
   omega
 obtain⟨w',r1,r2,r3,r4,r5,r6,r7⟩:=mP P ad.block T vs w c (ad.off+off) 0 hobj ho (by omega)
 have hx:Ext A w w':=⟨fun k hk=>r3 k (fun e=>hB.own rfl (e▸hk)),fun b m ⟨c1,T1,fz1,k1,k2⟩=>by
  by_cases e:b=ad.block
  ·subst e
   rw[hobj] at k1;cases k1
   exact⟨_,T,(0,0),r2,by rw[jA];exact k2⟩
  ·exact⟨c1,T1,fz1,by rw[r3 b e];exact k1,k2⟩⟩
 have hoth:Gi w w':= .but hobj r3
 refine⟨w',r1,?_,⟨hx,fun _ h=>h,⟨r4,r5,r6,by omega,fun k hk=>r3 k (by have:=hB.base;omega)⟩,fun _ h _=>h, .strict hoth (.refl _ _)⟩⟩
 refine⟨h.fr.mono hx (fun _ h=>h) (fun _ _ _=>rfl),h.stk.mono hx (fun _ h=>h) (fun _ _ _ _ _=>rfl),?_,?_,fun k hk=>by rw[r7];exact h.low k hk,by rw[r7];exact h.top,h.glo.mono hx.same (fun _ h=>h),h.lp.mono hoth (.refl _ _) (fun _=>rfl)⟩
 ·intro i b hbi
  simp only[St.setB] at hbi
  split at hbi
  next e=>
   subst e;simp at hbi;subst hbi
   refine .inr ⟨ad,ha,⟨hB.spot,hB.base,⟨_,T,r2⟩,?_,hB.own,hB.shared,fun c1 T1 h1=>by rw[r2] at h1;cases h1;rw[jA];exact hB.inside c T hobj⟩⟩
   refine aZ.nS hB.spot fun j d hj=>?_
   rw[vS hl] at hj
   have hc':w'.cell? (aG ad j)=(putAt c (ad.off+off+0) vs)[ad.off+j]? :=fZ r2
   rw[hc',uo _ _ _ _ (by omega)]
   split at hj
   next hin=>
    obtain⟨u,hu,hr⟩:=hd.get _ _ hj
    refine⟨u,?_,Rep.mono hx (fun _ h=>h) _ _ (fun _ _=>rfl) hr⟩
    rw[if_pos (by omega),←hu];congr 1;omega
   next hout=>
    obtain⟨u,hu,hr⟩:=hB.cells.get hB.spot j d hj
    refine⟨u,?_,Rep.mono hx (fun _ h=>h) _ _ (fun _ _=>rfl) hr⟩
    rw[if_neg (by omega),←hu]
    exact(fZ (o:=ad.off+j) hobj).symm
  next e=>
   rcases h.blk i b hbi with⟨k1,k2⟩ | ⟨a2,k1,k2⟩
   ·exact .inl ⟨k1,k2⟩
   ·have hne:a2.block≠ad.block:=fun e2=>e (h.inj i id a2 ad (by simp[hbi]) (by simp[hb]) k1 ha e2)
    have hsame:=r3 _ hne
    exact .inr ⟨a2,k1,⟨k2.spot,k2.base,by rw[hsame];exact k2.obj,aZ.mono hx (fun _ h=>h) _ _ hsame (fun _ _=>rfl) k2.cells,k2.own,k2.shared,fun c1 T1 h1=>k2.inside c1 T1 (by rw[←hsame];exact h1)⟩⟩
 ·intro i j a b hi hj
  refine h.inj i j a b (fun e=>hi ?_) (fun e=>hj ?_)
  ·simp only[St.setB];split
   next e1=>subst e1;rw[hb] at e;cases e
   next=>exact e
  ·simp only[St.setB];split
   next e1=>subst e1;rw[hb] at e;cases e
   next=>exact e
end
end Go.Dam
end

section
namespace Go.Dam
open Go Go.RowKit
variable [gB]
theorem run_underlying {P:Program} {t:TypeId} {d:TypeDesc} (h:P.underlying t=some d) (w:World):(underlying t).run P w= .ok d w:=by simp[underlying,h]
theorem run_typeInfo {P:Program} {t:TypeId} {i:TypeInfo} (h:P.info? t=some i) (w:World):(typeInfo t).run P w= .ok i w:=by simp[typeInfo,h]
theorem run_sizeOf {P:Program} {t:TypeId} {i:TypeInfo} (h:P.info? t=some i) (w:World):(sizeOf t).run P w= .ok i.size w:=by simp[sizeOf,run_typeInfo h]
theorem gq {P:Program} {t:TypeId} {i:TypeInfo} {z:Value} (h:P.info? t=some i) (hz:i.zero=some z) (w:World):(zeroValue t).run P w= .ok z w:=by simp[zeroValue,run_typeInfo h,hz]
theorem Hz (newLen:Nat):∀ r c,Builtin.growBy newLen r c≤c*2 ^ r∨c<256
 |0,c=> .inl (by simp[Builtin.growBy])
 |r+1,c=>by
  by_cases hc:c<256
  ·exact .inr hc
  ·simp only[Builtin.growBy]
   split
   ·exact .inl (Nat.le_mul_of_pos_right _ (Nat.two_pow_pos _))
   ·rcases Hz newLen r (c+(c+768) / 4) with h | h
    ·refine .inl (Nat.le_trans h ?_)
     rw[Nat.pow_succ,Nat.mul_comm (2 ^ r) 2,←Nat.mul_assoc]
     exact Nat.mul_le_mul_right _ (by omega)
    ·omega
theorem nextslicecap_le (need c:Nat) (h:c<need):Builtin.nextslicecap need c≤16*need:=by
 unfold Builtin.nextslicecap
 split
 ·omega
 ·split
  ·omega
  ·rcases Hz need 4 c with h1 | h1<;>omega
structure Src (P:Program) (w:World) (size m:Nat) (x:Value) (vs:List Value):Prop where
 len:(Builtin.lenOf x).run P w= .ok m w
 cells:∀ w':World,w'.heap=w.heap→(Builtin.firstCells size m x).run P w'= .ok vs.toArray w'
theorem jG {P:Program} {w w':World} {t t2 ty e:TypeId} {d2:TypeDesc} {i:TypeInfo} (hu:P.underlying t=some (.slice e)) (hi:P.info? e=some i) (hu2:P.underlying t2=some d2) (hd2:∀ k,d2≠ .int k)
  {o:Option Addr} {n c m:Nat} {x:Value} {vs:List Value} (hs:Src P w i.size m x vs) (hfit:n+m≤c)
  (hst:∀ a,o=some a→(storeCells (a.add (n*i.size)) vs).run P w= .ok () w') (hno:o=none→w'=w):
  (Builtin.append_ #[t,t2] ty #[.slice o n c,x]).run P w= .ok (.slice o (n+m) c) w':=by
 have hm:(match d2 with | .int _=>true | _=>false)=false:=by
  cases d2<;>first | rfl | exact absurd rfl (hd2 _)
 cases o with
 |none=>
  have:=hno rfl;subst this
  simp[Builtin.append_,run_underlying hu,run_underlying hu2,run_sizeOf hi,hm,hs.len,hfit,hs.cells _ rfl]
 |some a=>
  simp[Builtin.append_,run_underlying hu,run_underlying hu2,run_sizeOf hi,hm,hs.len,hfit,hs.cells w rfl,hst a rfl]
theorem pX {P:Program} {w:World} {t t2 ty e:TypeId} {d2:TypeDesc} {i:TypeInfo} {z:Value} (hu:P.underlying t=some (.slice e)) (hi:P.info? e=some i) (hz:i.zero=some z) (hu2:P.underlying t2=some d2) (hd2:∀ k,d2≠ .int k)
  (hb1:1≤i.bytes) (hzs:z.cells.size=i.size)
  {o:Option Addr} {n c m:Nat} {x:Value} {vs olds:List Value} (hs:Src P w i.size m x vs) (hfit:c<n+m) (hbytes:(n+m)*i.bytes≤2 ^ 44)
  (hold:∀ w':World,w'.heap=w.heap→(Builtin.firstCells i.size n (.slice o n c)).run P w'= .ok olds.toArray w'):
  ∃ (cap:Nat) (rest:Array Value),n+m≤cap∧rest.size=(cap - (n+m))*i.size∧
   (Builtin.append_ #[t,t2] ty #[.slice o n c,x]).run P w= .ok (.slice (some ⟨w.heap.size,0,none⟩) (n+m) cap) (w.drew.alloc (.cells ((olds ++ vs).toArray ++ rest) e)):=by
 have hm:(match d2 with | .int _=>true | _=>false)=false:=by
  cases d2<;>first | rfl | exact absurd rfl (hd2 _)
 have hneed:n+m≤2 ^ 44:=Nat.le_trans (Nat.le_mul_of_pos_right _ hb1) hbytes
 have h1:¬ (((n+m:Nat):Int) > IntKind.i64.max∧(False∨i.bytes=0)):=by
  rintro⟨_,h | h⟩
  ·exact h
  ·omega
 have h2:¬ (Builtin.nextslicecap (n+m) c*i.bytes > 2 ^ 48):=by
  have h3:=Nat.mul_le_mul_right i.bytes (nextslicecap_le (n+m) c hfit)
  rw[Nat.mul_assoc] at h3
  omega
 refine⟨(Question.appendCap (n+m) c e).cut (w.tape w.drawn (.appendCap (n+m) c e)),Builtin.zeroCells z.cells (((Question.appendCap (n+m) c e).cut (w.tape w.drawn (.appendCap (n+m) c e))) - (n+m)),?_,?_,?_⟩
 ·simp[Question.cut]
 ·simp[Builtin.zeroCells,hzs]
 ·have hb0:i.bytes≠0:=by omega
  have hfit':¬ (n+m≤c):=by omega
  have hcut:∀ w1:World,w1=w.drew→w1.heap=w.heap:=fun _ h=>by rw[h];rfl
  simp[Builtin.append_,run_underlying hu,run_underlying hu2,run_sizeOf hi,run_typeInfo hi,gq hi hz,hm,hs.len,hfit',hb0,Question.forced,hs.cells _ (hcut _ rfl),hold _ (hcut _ rfl),newRow]
  rw[if_neg (by simpa using h2)]
  simp[hs.cells w.drew rfl,hold w.drew rfl]
  simp only[←List.append_toArray,Array.append_assoc]
section
variable {w w':World} {A:Nat→Prop} {β:Env} {base:Nat} {σ:St} {tmps:Array Value} {acts:List (Array Value)}
theorem aZ.take {cs:List D} {ad:Addr} (hs:ad.spot=none) (h:aZ w A β cs ad) (n:Nat):aZ w A β (cs.take n) ad:=
 aZ.nS hs fun j d hj=>by
  rw[List.getElem?_take] at hj
  split at hj
  ·exact h.get hs j d hj
  ·cases hj
theorem aZ.drop {cs:List D} {ad:Addr} (hs:ad.spot=none) (h:aZ w A β cs ad) (n:Nat):aZ w A β (cs.drop n) (aG ad n):=
 aZ.nS rfl fun j d hj=>by
  rw[List.getElem?_drop] at hj
  obtain⟨u,h1,h2⟩:=h.get hs _ d hj
  exact⟨u,by rw[dh];exact h1,h2⟩
theorem Rel.app (P:Program) (h:Rel w A β base σ tmps acts) {id:Nat} {cells:List D} (hb:σ.bk id=some ⟨cells,false⟩) {ad:Addr} (ha:β id=some ad) {off k lim:Nat} {ds:List D} {vs:List Value}
  (hd:aF w A β ds vs) (ho:∀ u∈vs,u.oneCell'=true) (hl:off+k≤cells.length) (hroom:Room w ad.block (ad.off+off+lim)) (hk:k+ds.length≤lim):
  ∃ w',(storeCells (aG ad (off+k)) vs).run P w= .ok () w'∧Rel w' A (β.set id (some (aG ad off))) base ((σ.forget id).setB id ⟨((cells.drop off).take k ++ ds).map (D.forget id),false⟩) tmps acts∧Turn A A base w w'∧
   Room w' ad.block (ad.off+off+lim):=by
 rcases h.blk id _ hb with⟨h1,_⟩ | ⟨ad',h1,hB⟩
 ·rw[ha] at h1;cases h1
 rw[ha] at h1;cases h1
 obtain⟨c,T,hobj⟩:=hB.obj
 have hlen:=hd.length
 obtain⟨c2,T2,fz2,hobj2,hlim⟩:=hroom
 rw[hobj] at hobj2;cases hobj2
 obtain⟨w',r1,r2,r3,r4,r5,r6,r7⟩:=mP P ad.block T vs w c (ad.off+(off+k)) 0 hobj ho (by omega)
 have hx:Ext A w w':=⟨fun j hj=>r3 j (fun e=>hB.own rfl (e▸hj)),fun b m ⟨c1,T1,fz1,k1,k2⟩=>by
  by_cases e:b=ad.block
  ·subst e
   rw[hobj] at k1;cases k1
   exact⟨_,T,(0,0),r2,by rw[jA];exact k2⟩
  ·exact⟨c1,T1,fz1,by rw[r3 b e];exact k1,k2⟩⟩
 have hne:∀ i b a2,i≠id→σ.bk i=some b→β i=some a2→a2.block≠ad.block:=fun i b a2 hne hbi hai e=>hne (h.inj i id a2 ad (by simp[hbi]) (by simp[hb]) hai ha e)
 have h1:=h.rebind (w':=w') id (some (aG ad off)) hx (by rw[r7];exact h.top) (by omega) (.but hobj r3) (fun i b a2 hi hbi hai=>r3 _ (hne i b a2 hi hbi hai))
 refine⟨w',r1,?_,⟨hx,fun _ h=>h,⟨r4,r5,r6,by omega,fun j hj=>r3 j (by have:=hB.base;omega)⟩,fun _ h _=>h, .strict (.but hobj r3) (.refl _ _)⟩,⟨_,T,(0,0),r2,by rw[jA];exact hlim⟩⟩
 refine h1.setB id _ (.inr ⟨_,Env.bU _ _ _,⟨rfl,hB.base,⟨_,T,r2⟩,?_,hB.own,hB.shared,fun c1 T1 h1=>by
  have h1':w'.heap[ad.block]? =some (.cells c1 T1 (0,0)):=h1
  rw[r2] at h1';cases h1';rw[jA];simp;omega⟩⟩) ?_
 ·have hrep:∀ (d:D) u,Rep w A β d u→Rep w' A (β.set id (some (aG ad off))) (d.forget id) u:=fun d u hr=>
   Rep.mono hx (fun _ h=>h) _ _ (fun i hi=>Env.dG _ _ (D.fB hi).2) (hr.forget id)
  have hkl:((cells.drop off).take k).length=k:=by simp;omega
  refine aZ.nS rfl fun j d hj=>?_
  simp only[List.getElem?_map,Option.map_eq_some_iff] at hj
  obtain⟨d0,hd0,rfl⟩:=hj
  have hc':w'.cell? (aG (aG ad off) j)=(putAt c (ad.off+(off+k)+0) vs)[ad.off+off+j]? :=by rw[dh];rw[Nat.add_assoc ad.off off j];exact fZ (o:=ad.off+(off+j)) r2
  rw[hc',uo _ _ _ _ (by omega)]
  rcases Nat.lt_or_ge j k with hjk | hjk
  ·rw[List.getElem?_append_left (by omega),List.getElem?_take,if_pos hjk,List.getElem?_drop] at hd0
   obtain⟨u,hu,hr⟩:=hB.cells.get hB.spot _ d0 hd0
   refine⟨u,?_,hrep _ _ hr⟩
   rw[if_neg (by omega),←hu,Nat.add_assoc]
   exact(fZ (o:=ad.off+(off+j)) hobj).symm
  ·rw[List.getElem?_append_right (by omega),hkl] at hd0
   obtain⟨u,hu,hr⟩:=hd.get _ _ hd0
   have hjl:=(List.getElem?_eq_some_iff.1 hd0).1
   refine⟨u,?_,hrep _ _ hr⟩
   rw[if_pos (by omega),←hu];congr 1;omega
 ·intro i a a2 hi hbk hai ha2
  rw[Env.bU] at ha2
  cases ha2
  rw[Env.dG _ _ hi] at hai
  simp only[St.forget,if_neg hi] at hbk
  obtain⟨b,hbb⟩:=Option.ne_none_iff_exists'.1 hbk
  simp only[Option.map_eq_some_iff] at hbb
  obtain⟨b0,hb0,_⟩:=hbb
  exact hne i b0 a hi hb0 hai
end
end Go.Dam
end
