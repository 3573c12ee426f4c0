/- The engine: an abstract machine for the program's functions, proved right against the model. No condition. -/
import Derived.Below
import Derived.LoopN
import Derived.Orders
import Derived.Tactics
import Derived.RangeFuncRecord
import Derived.LoopNIn
import Derived.OrdersIn
import Derived.TacticsIn
import Derived.Laws.Sem
import Derived.Laws.World
import GoSem.Builtin.Append
import GoSem.Dispatch
import Derived.IntWalk
import Derived.Still
set_option linter.unusedSectionVars false
set_option linter.unusedVariables false
set_option linter.unusedSimpArgs false
noncomputable section
namespace Go.Dam
open Go Go.RowKit
theorem dB {α β:Type} {a c:α} {b d:β} (h:some (a,b)=some (c,d)):a=c∧b=d:=by simpa using h
theorem okt {α β γ:Type} {a c:α} {b d:β} {e f:γ} (h:some (a,b,e)=some (c,d,f)):a=c∧b=d∧e=f:=by simpa using h
def ai (o:BinOp) (k:IntKind) (x y:Int):Int:=
 match o with
 | .add=>k.wrap (x+y)
 | .sub=>k.wrap (x - y)
 | .mul=>k.wrap (x*y)
 | .quo=>k.wrap (x.tdiv y)
 | .rem=>x.tmod y
 | .and=>k.wrap (BitVec.ofInt k.bits x &&& BitVec.ofInt k.bits y).toNat
 | .or=>k.wrap (BitVec.ofInt k.bits x ||| BitVec.ofInt k.bits y).toNat
 | .xor=>k.wrap (BitVec.ofInt k.bits x ^^^ BitVec.ofInt k.bits y).toNat
 | .andNot=>k.wrap (BitVec.ofInt k.bits x &&& ~~~ BitVec.ofInt k.bits y).toNat
 | .shl=>k.wrap (x*2 ^ min y.toNat k.bits)
 | .shr=>x.fdiv (2 ^ min y.toNat k.bits)
 |_=>0
def ah (o:BinOp) (x y:Int):Bool:=
 match o with
 | .eql=>x ==y
 | .neq=>x != y
 | .lss=>decide (x<y)
 | .leq=>decide (x≤y)
 | .gtr=>decide (x > y)
 | .geq=>decide (x≥y)
 |_=>false
structure Sz where
 s:Nat
 r:Nat:=0
 deriving DecidableEq,Inhabited
instance:Coe Sz Nat:=⟨Sz.s⟩
inductive ay where
 |ints (k:IntKind) (xs:List Int)
 |bools (xs:List Bool)
 deriving Inhabited
inductive Col where
 |ints (k:IntKind) (xs:List Int)
 |bools (xs:List Bool)
 |rows (n:Nat) (f:Nat→List ay)
 deriving Inhabited
def ay.len:ay→Nat
 | .ints _ xs=>xs.length
 | .bools xs=>xs.length
def ay.val (i:Nat):ay→Value
 | .ints k xs=> .int k (xs.getD i 0)
 | .bools xs=> .bool (xs.getD i false)
def ay.up:ay→Col
 | .ints k xs=> .ints k xs
 | .bools xs=> .bools xs
def Col.len:Col→Nat
 | .ints _ xs=>xs.length
 | .bools xs=>xs.length
 | .rows n _=>n
def af:List ay→Nat
 |[]=>0
 |c::_=>c.len
def rowLen:List Col→Nat
 |[]=>0
 |c::_=>c.len
@[simp] theorem ay.aqb (c:ay):c.up.len=c.len:=by cases c<;>rfl
@[simp] theorem fU (cs:List ay):rowLen (cs.map ay.up)=af cs:=by cases cs<;>simp[rowLen,af]
inductive D where
 |undef
 |v (x:Value)
 |emp
 |sh (n:Nat) (cs:List D)
 |ow (n sz:Nat) (cs:List D)
 |sl (id off n:Nat) (sz:Sz)
 |ptr (id off:Nat)
 |shp (cs:List D) (off:Nat)
 |fn (f:Nat) (caps:List D)
 |yld
 |agg (cs:List D)
 |aS (cs:List D)
 |rc (cs:List Col)
 |pel (id i w j:Nat)
 |oc (cs:List ay)
 deriving Inhabited
structure fK where
 cells:List D
 ro:Bool
 deriving Inhabited
class iG where
 g:Nat→List D
 walked:Nat→Bool
variable [iG]
def PS:Nat:=1152921504606846977
def Live:Prop:=iG.walked PS=true
def eu:Nat:=1152921504606846976
abbrev Env:=Nat→Option Addr
def aO (a:Addr) (n:Nat):Addr:=⟨a.block,a.off+n,none⟩
@[simp] theorem aga (a:Addr) (n:Nat):(aO a n).block=a.block:=rfl
@[simp] theorem ajC (a:Addr) (n:Nat):(aO a n).off=a.off+n:=rfl
@[simp] theorem fG (a:Addr) (n m:Nat):aO (aO a n) m=aO a (n+m):=by simp[aO,Nat.add_assoc]
@[simp] theorem Ff (a:Addr) (n m:Nat):(aO a n).add m=aO a (n+m):=by
 unfold Addr.add aO
 split
 ·next e=>subst e;rfl
 ·simp[Nat.add_assoc]
theorem dM (a:Addr) (n:Nat) (h:a.spot=none):a.add n=aO a n:=by
 unfold Addr.add aO
 split
 ·next e=>subst e;cases a;simp at h;simp[h]
 ·rfl
def RX (w:World) (A:Nat→Prop) (cs:List ay) (u:Value):Prop:=
 ∃ o cp,u= .slice o (af cs) cp∧(Live→o≠none)∧af cs≤cp∧(af cs≠0→∃ ad,o=some ad∧ad.spot=none∧A ad.block)∧
  ∀ i j c,i<af cs→cs[j]? =some c→w.cell? (aO (o.getD default) (i*cs.length+j))=some (c.val i)
def KQ (w:World) (A:Nat→Prop) (i:Nat) (x:Value):Col→Prop
 | .ints k xs=>x= .int k (xs.getD i 0)
 | .bools xs=>x= .bool (xs.getD i false)
 | .rows _ f=>RX w A (f i) x
def XP (w:World) (A:Nat→Prop) (cs:List Col) (u:Value):Prop:=
 ∃ o cp,u= .slice o (rowLen cs) cp∧(Live→o≠none)∧rowLen cs≤cp∧(rowLen cs≠0→∃ ad,o=some ad∧ad.spot=none∧A ad.block)∧
  ∀ i j c,i<rowLen cs→cs[j]? =some c→∃ x,w.cell? (aO (o.getD default) (i*cs.length+j))=some x∧KQ w A i x c
mutual
def aG (w:World) (A:Nat→Prop):D→Value→Prop
 | .undef,_=>True
 | .v x,u=>u=x
 | .emp,u=>∃ ad:Addr,u= .slice (some ad) 0 0
 | .sh n cs,u=>∃ o c,u= .slice o n c∧n≤c∧(n≠0∨cs≠[]→∃ ad,o=some ad∧ad.spot=none∧A ad.block)∧bQ w A cs (o.getD default)
 | .shp cs off,u=>∃ ad,u= .pointer (some (aO ad off))∧ad.spot=none∧(cs≠[]→A ad.block)∧bQ w A cs ad
 | .agg cs,u=>∃ vs:List Value,u= .agg vs.toArray∧dU w A cs vs
 | .aS cs,u=>∃ vs:List Value,u= .tuple vs.toArray∧dU w A cs vs
 | .fn f cs,u=>∃ vs:List Value,u= .func (.func f) #[] vs.toArray∧dU w A cs vs
 | .rc cs,u=>XP w A cs u
 |_,_=>False
def bQ (w:World) (A:Nat→Prop):List D→Addr→Prop
 |[],_=>True
 |d::ds,ad=>(∃ u,w.cell? ad=some u∧aG w A d u)∧bQ w A ds (aO ad 1)
def dU (w:World) (A:Nat→Prop):List D→List Value→Prop
 |[],vs=>vs=[]
 |d::ds,vs=>∃ x xs,vs=x::xs∧aG w A d x∧dU w A ds xs
end
def Room (w:World) (b m:Nat):Prop:=∃ c T fz,w.heap[b]? =some (.cells c T fz)∧m≤c.size
mutual
def Rep (w:World) (A:Nat→Prop) (β:Env):D→Value→Prop
 | .sl id off n sz,u=>∃ o c,u= .slice o n c∧((max n sz.r=0∧c=0)∨(max n sz.r≤c∧∃ ad,β id=some ad∧o=some (aO ad off)∧Room w ad.block (ad.off+off+c*sz.s)))
 | .ptr id off,u=>∃ ad,β id=some ad∧u= .pointer (some (aO ad off))
 | .pel id i n j,u=>∃ ad,β id=some ad∧u= .pointer (some (aO ad (i*n+j)))
 | .yld,u=>∃ ad,β eu=some ad∧u= .func (.yield ad.block) #[] #[]
 | .agg cs,u=>∃ vs:List Value,u= .agg vs.toArray∧aH w A β cs vs
 | .aS cs,u=>∃ vs:List Value,u= .tuple vs.toArray∧aH w A β cs vs
 | .fn f cs,u=>∃ vs:List Value,u= .func (.func f) #[] vs.toArray∧aH w A β cs vs
 |d,u=>aG w A d u
def aH (w:World) (A:Nat→Prop) (β:Env):List D→List Value→Prop
 |[],vs=>vs=[]
 |d::ds,vs=>∃ x xs,vs=x::xs∧Rep w A β d x∧aH w A β ds xs
end
mutual
def D.has (id:Nat):D→Bool
 | .sl i _ _ _=>i ==id
 | .ptr i _=>i ==id
 | .pel i _ _ _=>i ==id
 | .yld=>eu ==id
 | .agg cs=>D.dm id cs
 | .aS cs=>D.dm id cs
 | .fn _ cs=>D.dm id cs
 |_=>false
def D.dm (id:Nat):List D→Bool
 |[]=>false
 |d::ds=>D.has id d || D.dm id ds
end
structure Ext (A:Nat→Prop) (w w':World):Prop where
 same:∀ k,A k→w'.heap[k]? =w.heap[k]?
 room:∀ b m,Room w b m→Room w' b m
def isC:Obj→Bool
 | .cells ..=>true
 |_=>false
def La (w w':World):Prop:=∀ (k:Nat) (o:Obj),w.heap[k]? =some o→isC o=false→w'.heap[k]? =some o
theorem La.refl (w:World):La w w:=fun _ _ h _=>h
theorem La.trans {a b c:World} (h:La a b) (k:La b c):La a c:=fun i o hi ho=>k i o (h i o hi ho) ho
theorem La.of_heap {w w':World} (h:w'.heap=w.heap):La w w':=fun k o hk _=>by rw[h];exact hk
theorem La.below {w w':World} (h:Below w.heap.size w w'):La w w':=fun k o hk _=>by
 rw[h.block k (Array.getElem?_eq_some_iff.1 hk).1];exact hk
theorem La.but {w w':World} {b:Nat} {c:Array Value} {T:TypeId} {fz:Nat×Nat} (hb:w.heap[b]? =some (.cells c T fz)) (h:∀ k,k≠b→w'.heap[k]? =w.heap[k]?):La w w':=fun k o hk ho=>by
 by_cases e:k=b
 ·subst e;rw[hb] at hk;cases hk;cases ho
 ·rw[h k e];exact hk
def New (A A':Nat→Prop) (w:World):Prop:=∀ (k:Nat) (o:Obj),w.heap[k]? =some o→isC o=false→A' k→A k
theorem New.refl (A:Nat→Prop) (w:World):New A A w:=fun _ _ _ _ h=>h
def Pq:Obj→Bool
 | .deferred _=>true
 |_=>false
theorem Jo {o:Obj} (h:Pq o=true):isC o=false:=by cases o<;>simp_all [Pq,isC]
structure Side (A A':Nat→Prop) (w w':World):Prop where
 keep:∀ (k:Nat) (o:Obj),w.heap[k]? =some o→Pq o=true→w'.heap[k]? =some o
 non:∀ (k:Nat) (o:Obj),w.heap[k]? =some o→isC o=false→∃ o':Obj,w'.heap[k]? =some o'∧isC o'=false
 new:New A A' w
theorem Side.strict {A A':Nat→Prop} {w w':World} (h:La w w') (k:New A A' w):Side A A' w w':=
 ⟨fun i o hi ho=>h i o hi (Jo ho),fun i o hi ho=>⟨o,h i o hi ho,ho⟩,k⟩
theorem Side.refl (A:Nat→Prop) (w:World):Side A A w w:= .strict (.refl w) (.refl A w)
theorem Side.trans {A A' A'':Nat→Prop} {a b c:World} (h:Side A A' a b) (k:Side A' A'' b c):Side A A'' a c:=
  ⟨fun i o hi ho=>k.keep i o (h.keep i o hi ho) ho,fun i o hi ho=>let ⟨o',h1,h2⟩:=h.non i o hi ho;k.non i o' h1 h2,
   fun i o hi ho ha=>let ⟨o',h1,h2⟩:=h.non i o hi ho;h.new i o hi ho (k.new i o' h1 h2 ha)⟩
theorem Ext.refl (A:Nat→Prop) (w:World):Ext A w w:=⟨fun _ _=>rfl,fun _ _ h=>h⟩
theorem Ext.trans {A A':Nat→Prop} {a b c:World} (h:Ext A a b) (k:Ext A' b c) (hA:∀ x,A x→A' x):Ext A a c:=
 ⟨fun x hx=>(k.same x (hA x hx)).trans (h.same x hx),fun b m r=>k.room b m (h.room b m r)⟩
theorem kW {w w':World} {ad:Addr} (h:w'.heap[ad.block]? =w.heap[ad.block]?):w'.cell? ad=w.cell? ad:=by
 unfold World.cell?;rw[h]
theorem RX.mono {w w':World} {A A':Nat→Prop} (hs:∀ k,A k→w'.heap[k]? =w.heap[k]?) (hA:∀ k,A k→A' k) {cs:List ay} {u:Value} (h:RX w A cs u):RX w' A' cs u:=by
 obtain⟨o,cp,rfl,hv,h1,h2,h3⟩:=h
 refine⟨o,cp,rfl,hv,h1,fun hne=>?_,fun i j k hi hk=>?_⟩
 ·obtain⟨ad,h4,h5,h6⟩:=h2 hne;exact⟨ad,h4,h5,hA _ h6⟩
 ·obtain⟨ad,rfl,h5,h6⟩:=h2 (by omega)
  exact(kW (ad:=aO ad (i*cs.length+j)) (hs _ h6)).trans (h3 i j k hi hk)
theorem KQ.mono {w w':World} {A A':Nat→Prop} (hs:∀ k,A k→w'.heap[k]? =w.heap[k]?) (hA:∀ k,A k→A' k) {c:Col} {i:Nat} {x:Value} (h:KQ w A i x c):KQ w' A' i x c:=by
 cases c with
 |ints k xs=>exact h
 |bools xs=>exact h
 |rows n f=>exact RX.mono hs hA h
theorem XP.mono {w w':World} {A A':Nat→Prop} (hs:∀ k,A k→w'.heap[k]? =w.heap[k]?) (hA:∀ k,A k→A' k) {cs:List Col} {u:Value} (h:XP w A cs u):XP w' A' cs u:=by
 obtain⟨o,cp,rfl,hv,h1,h2,h3⟩:=h
 refine⟨o,cp,rfl,hv,h1,fun hne=>?_,fun i j k hi hk=>?_⟩
 ·obtain⟨ad,h4,h5,h6⟩:=h2 hne;exact⟨ad,h4,h5,hA _ h6⟩
 ·obtain⟨ad,rfl,h5,h6⟩:=h2 (by omega)
  obtain⟨x,h7,h8⟩:=h3 i j k hi hk
  exact⟨x,(kW (ad:=aO ad (i*cs.length+j)) (hs _ h6)).trans h7,h8.mono hs hA⟩
mutual
theorem aG.mono {w w':World} {A A':Nat→Prop} (hs:∀ k,A k→w'.heap[k]? =w.heap[k]?) (hA:∀ k,A k→A' k):∀ (d:D) (u:Value),aG w A d u→aG w' A' d u
 | .undef,_,_=>by simp[aG]
 | .v x,u,h=>by simpa [aG] using h
 | .emp,u,h=>by simpa [aG] using h
 | .sh n cs,u,h=>by
  simp only[aG] at h ⊢
  obtain⟨o,c,rfl,hc,h1,h2⟩:=h
  refine⟨o,c,rfl,hc,fun hne=>?_,?_⟩
  ·obtain⟨ad,h3,h4,h5⟩:=h1 hne;exact⟨ad,h3,h4,hA _ h5⟩
  ·cases cs with
   |nil=>simp[bQ]
   |cons d ds=>
    obtain⟨ad,rfl,h4,h5⟩:=h1 (.inr (by simp))
    exact bQ.mono hs hA (d::ds) ad h5 h2
 | .shp cs off,u,h=>by
  simp only[aG] at h ⊢
  obtain⟨ad,rfl,h4,h1,h2⟩:=h
  refine⟨ad,rfl,h4,fun hne=>hA _ (h1 hne),?_⟩
  cases cs with
  |nil=>simp[bQ]
  |cons d ds=>exact bQ.mono hs hA (d::ds) ad (h1 (by simp)) h2
 | .agg cs,u,h=>by
  simp only[aG] at h ⊢
  obtain⟨vs,rfl,h⟩:=h
  exact⟨vs,rfl,dU.mono hs hA cs vs h⟩
 | .aS cs,u,h=>by
  simp only[aG] at h ⊢
  obtain⟨vs,rfl,h⟩:=h
  exact⟨vs,rfl,dU.mono hs hA cs vs h⟩
 | .fn f cs,u,h=>by
  simp only[aG] at h ⊢
  obtain⟨vs,rfl,h⟩:=h
  exact⟨vs,rfl,dU.mono hs hA cs vs h⟩
 | .rc cs,u,h=>by simp only[aG] at h ⊢;exact h.mono hs hA
 | .oc _,_,h=>by simp[aG] at h
 | .pel _ _ _ _,_,h=>by simp[aG] at h
 | .ow _ _ _,_,h=>by simp[aG] at h
 | .sl _ _ _ _,_,h=>by simp[aG] at h
 | .ptr _ _,_,h=>by simp[aG] at h
 | .yld,_,h=>by simp[aG] at h
theorem bQ.mono {w w':World} {A A':Nat→Prop} (hs:∀ k,A k→w'.heap[k]? =w.heap[k]?) (hA:∀ k,A k→A' k):∀ (cs:List D) (ad:Addr),A ad.block→bQ w A cs ad→bQ w' A' cs ad
 |[],_,_,_=>by simp[bQ]
 |d::ds,ad,ha,h=>by
  simp only[bQ] at h ⊢
  obtain⟨⟨u,h1,h2⟩,h3⟩:=h
  exact⟨⟨u,(kW (hs _ ha)).trans h1,aG.mono hs hA d u h2⟩,bQ.mono hs hA ds (aO ad 1) ha h3⟩
theorem dU.mono {w w':World} {A A':Nat→Prop} (hs:∀ k,A k→w'.heap[k]? =w.heap[k]?) (hA:∀ k,A k→A' k):∀ (cs:List D) (vs:List Value),dU w A cs vs→dU w' A' cs vs
 |[],_,h=>by simpa [dU] using h
 |d::ds,vs,h=>by
  simp only[dU] at h ⊢
  obtain⟨x,xs,rfl,h1,h2⟩:=h
  exact⟨x,xs,rfl,aG.mono hs hA d x h1,dU.mono hs hA ds xs h2⟩
end
mutual
theorem Rep.mono {w w':World} {A A':Nat→Prop} {β β':Env} (hx:Ext A w w') (hA:∀ k,A k→A' k):∀ (d:D) (u:Value),(∀ id,d.has id=true→β' id=β id)→Rep w A β d u→Rep w' A' β' d u
 | .sl id off n sz,u,hb,h=>by
  simp only[Rep] at h ⊢
  obtain⟨o,c,rfl,h⟩:=h
  refine⟨o,c,rfl,?_⟩
  rcases h with h | ⟨h1,ad,h2,h3,h4⟩
  ·exact .inl h
  ·exact .inr ⟨h1,ad,(hb id (by simp[D.has])).trans h2,h3,hx.room _ _ h4⟩
 | .ptr id off,u,hb,h=>by
  simp only[Rep] at h ⊢
  obtain⟨ad,h1,h2⟩:=h
  exact⟨ad,(hb id (by simp[D.has])).trans h1,h2⟩
 | .pel id i n j,u,hb,h=>by
  simp only[Rep] at h ⊢
  obtain⟨ad,h1,h2⟩:=h
  exact⟨ad,(hb id (by simp[D.has])).trans h1,h2⟩
 | .yld,u,hb,h=>by
  simp only[Rep] at h ⊢
  obtain⟨ad,h1,h2⟩:=h
  exact⟨ad,(hb eu (by simp[D.has])).trans h1,h2⟩
 | .agg cs,u,hb,h=>by
  simp only[Rep] at h ⊢
  obtain⟨vs,rfl,h⟩:=h
  exact⟨vs,rfl,aH.mono hx hA cs vs (fun id h=>hb id (by simpa [D.has] using h)) h⟩
 | .aS cs,u,hb,h=>by
  simp only[Rep] at h ⊢
  obtain⟨vs,rfl,h⟩:=h
  exact⟨vs,rfl,aH.mono hx hA cs vs (fun id h=>hb id (by simpa [D.has] using h)) h⟩
 | .fn f cs,u,hb,h=>by
  simp only[Rep] at h ⊢
  obtain⟨vs,rfl,h⟩:=h
  exact⟨vs,rfl,aH.mono hx hA cs vs (fun id h=>hb id (by simpa [D.has] using h)) h⟩
 | .undef,u,_,h=>by simp only[Rep] at h ⊢;exact aG.mono hx.same hA _ _ h
 | .v x,u,_,h=>by simp only[Rep] at h ⊢;exact aG.mono hx.same hA _ _ h
 | .sh _ _,u,_,h=>by simp only[Rep] at h ⊢;exact aG.mono hx.same hA _ _ h
 | .shp _ _,u,_,h=>by simp only[Rep] at h ⊢;exact aG.mono hx.same hA _ _ h
 | .emp,u,_,h=>by simp only[Rep] at h ⊢;exact aG.mono hx.same hA _ _ h
 | .ow _ _ _,u,_,h=>by simp only[Rep] at h ⊢;exact aG.mono hx.same hA _ _ h
 | .rc _,u,_,h=>by simp only[Rep] at h ⊢;exact aG.mono hx.same hA _ _ h
 | .oc _,u,_,h=>by simp only[Rep] at h ⊢;exact aG.mono hx.same hA _ _ h
theorem aH.mono {w w':World} {A A':Nat→Prop} {β β':Env} (hx:Ext A w w') (hA:∀ k,A k→A' k):∀ (cs:List D) (vs:List Value),(∀ id,D.dm id cs=true→β' id=β id)→aH w A β cs vs→aH w' A' β' cs vs
 |[],_,_,h=>by simpa [aH] using h
 |d::ds,vs,hb,h=>by
  simp only[aH] at h ⊢
  obtain⟨x,xs,rfl,h1,h2⟩:=h
  exact⟨x,xs,rfl,Rep.mono hx hA d x (fun id h=>hb id (by simp[D.dm,h])) h1,aH.mono hx hA ds xs (fun id h=>hb id (by simp[D.dm,h])) h2⟩
end
end Go.Dam
end
noncomputable section
namespace Go.Dam
open Go Go.RowKit
variable [iG]
def dK {α:Type} (P:Program):Sem α→Option α
 | .pure a=>some a
 | .program k=>dK P (k P)
 | .mark _ k=>dK P k
 |_=>none
theorem qo {α:Type} (P:Program) (w:World):∀ (s:Sem α) (a:α),dK P s=some a→s.run P w= .ok a w
 | .pure b,a,h=>by simp[dK] at h;subst h;rfl
 | .program k,a,h=>by simp only[dK] at h;simp only[Sem.run];exact qo P w (k P) a h
 | .load ..,_,h=>by simp[dK] at h
 | .store ..,_,h=>by simp[dK] at h
 | .new ..,_,h=>by simp[dK] at h
 | .shape ..,_,h=>by simp[dK] at h
 | .freeze ..,_,h=>by simp[dK] at h
 | .frozen ..,_,h=>by simp[dK] at h
 | .getObj ..,_,h=>by simp[dK] at h
 | .setObj ..,_,h=>by simp[dK] at h
 | .choose ..,_,h=>by simp[dK] at h
 | .sys ..,_,h=>by simp[dK] at h
 | .mark _ k,a,h=>by simp only[dK] at h;simp only[Sem.run];exact qo P w k a h
 | .halt ..,_,h=>by simp[dK] at h
def D.plain:D→Option Value
 | .v x=>some x
 | .agg cs=>(D.xC cs).map fun vs=> .agg vs.toArray
 |_=>none
where
 D.xC:List D→Option (List Value)
 |[]=>some []
 |d::ds=>match d with
  | .v x=>(D.xC ds).map (x::·)
  |_=>none
abbrev D.xC:=D.plain.D.xC
def D.oV:Value→D
 | .agg cs=> .agg (cs.toList.map D.v)
 | .tuple cs=> .aS (cs.toList.map D.v)
 |x=> .v x
theorem aH.plain {w:World} {A:Nat→Prop} {β:Env}:∀ (cs:List D) (vs us:List Value),D.xC cs=some vs→aH w A β cs us→us=vs
 |[],vs,us,h,r=>by
  simp[D.plain.D.xC] at h;subst h
  simpa [aH] using r
 | .v x::ds,vs,us,h,r=>by
  simp only[D.plain.D.xC,Option.map_eq_some_iff] at h
  obtain⟨ys,h1,rfl⟩:=h
  simp only[aH,Rep,aG] at r
  obtain⟨y,xs,rfl,rfl,r2⟩:=r
  rw[aH.plain ds ys xs h1 r2]
 | .yld::_,_,_,h,_ | .undef::_,_,_,h,_ | .emp::_,_,_,h,_ | .sh ..::_,_,_,h,_ | .ow ..::_,_,_,h,_ | .sl ..::_,_,_,h,_ | .ptr ..::_,_,_,h,_ | .pel ..::_,_,_,h,_ | .rc ..::_,_,_,h,_ | .oc ..::_,_,_,h,_ | .shp ..::_,_,_,h,_ | .fn ..::_,_,_,h,_
 | .agg ..::_,_,_,h,_ | .aS ..::_,_,_,h,_=>by simp[D.plain.D.xC] at h
theorem Rep.plain {w:World} {A:Nat→Prop} {β:Env} {d:D} {v u:Value} (h:d.plain=some v) (r:Rep w A β d u):u=v:=by
 cases d with
 |v x=>simp[D.plain] at h;simp[Rep,aG] at r;rw[r,h]
 |agg cs=>
  simp only[D.plain,Option.map_eq_some_iff] at h
  obtain⟨vs,h1,rfl⟩:=h
  simp only[Rep] at r
  obtain⟨us,rfl,r⟩:=r
  rw[aH.plain cs vs us h1 r]
 |_=>simp[D.plain] at h
theorem aH.oV {w:World} {A:Nat→Prop} {β:Env}:∀ (vs:List Value),aH w A β (vs.map D.v) vs
 |[]=>by simp[aH]
 |x::xs=>by simp only[List.map_cons,aH];exact⟨x,xs,rfl,by simp[Rep,aG],aH.oV xs⟩
theorem Rep.oV {w:World} {A:Nat→Prop} {β:Env} (v:Value):Rep w A β (D.oV v) v:=by
 cases v with
 |agg cs=>simp only[D.oV,Rep];exact⟨cs.toList,rfl,aH.oV _⟩
 |tuple cs=>simp only[D.oV,Rep];exact⟨cs.toList,rfl,aH.oV _⟩
 |_=>simp[D.oV,Rep,aG]
structure Fr where
 nt:Nat
 tm:Nat→D
inductive Af where
 |ready
 |busy
 |done (c:Code)
def Af.state:Af→LoopState
 | .ready=> .ready
 | .busy=> .busy
 | .done _=> .done
def Af.jump:Af→Option Code
 | .done c=>some c
 |_=>none
structure kV where
 ps:Array Tmp
 assign:Code
 body:Code
 depth:Nat
 state:Af
structure St where
 fr:Fr
 stk:List Fr
 bk:Nat→Option fK
 loop:Option kV:=none
def Fr.put (f:Fr) (t:Nat) (d:D):Fr:={ f with tm:=fun i=>if i=t then(if t<f.nt then d else .undef) else f.tm i }
def St.put (σ:St) (dst:Option Tmp) (d:D):St:=
 match dst with
 |some t=>{ σ with fr:=σ.fr.put t d }
 |none=>σ
def D.forget (id:Nat) (d:D):D:=if d.has id then .undef else d
def Fr.forget (id:Nat) (f:Fr):Fr:={ f with tm:=fun t=>(f.tm t).forget id }
def fK.forget (id:Nat) (b:fK):fK:={ b with cells:=b.cells.map (D.forget id) }
def St.forget (id:Nat) (σ:St):St:=
 { fr:=σ.fr.forget id,stk:=σ.stk.map (Fr.forget id),bk:=fun i=>if i=id then none else(σ.bk i).map (fK.forget id),loop:=if id=eu then none else σ.loop }
def St.setB (σ:St) (id:Nat) (b:fK):St:={ σ with bk:=fun i=>if i=id then some b else σ.bk i }
def bI (w:World) (A:Nat→Prop) (β:Env):List D→Addr→Prop
 |[],_=>True
 |d::ds,ad=>(∃ u,w.cell? ad=some u∧Rep w A β d u)∧bI w A β ds (aO ad 1)
structure kR (w:World) (A:Nat→Prop) (β:Env) (f:Fr) (tmps:Array Value):Prop where
 nt:f.nt=tmps.size
 tm:∀ t,Rep w A β (f.tm t) (tmps.getD t Go.undef)
inductive ja (w:World) (A:Nat→Prop) (β:Env):List Fr→List (Array Value)→Prop
 |nil:ja w A β [] []
 |cons {f:Fr} {fs:List Fr} {a:Array Value} {as:List (Array Value)}:kR w A β f a→ja w A β fs as→ja w A β (f::fs) (a::as)
structure vX (w:World) (A:Nat→Prop) (β:Env) (base:Nat) (b:fK) (ad:Addr):Prop where
 spot:ad.spot=none
 base:base≤ad.block
 obj:∃ c T,w.heap[ad.block]? =some (.cells c T (0,0))
 cells:bI w A β b.cells ad
 own:b.ro=false→¬ A ad.block
 shared:b.ro=true→A ad.block
 inside:∀ c T,w.heap[ad.block]? =some (.cells c T (0,0))→ad.off≤c.size
def A7 (w:World) (A:Nat→Prop):Prop:=∀ g,iG.g g≠[]→A g∧bQ w A (iG.g g) ⟨g,0,none⟩
theorem A7.mono {w w':World} {A A':Nat→Prop} (hs:∀ k,A k→w'.heap[k]? =w.heap[k]?) (hA:∀ k,A k→A' k) (h:A7 w A):A7 w' A':=
 fun g hg=>⟨hA _ (h g hg).1,bQ.mono hs hA _ _ (h g hg).1 (h g hg).2⟩
theorem A7.grow {w:World} {A A':Nat→Prop} (hA:∀ k,A k→A' k) (h:A7 w A):A7 w A':=h.mono (fun _ _=>rfl) hA
def iZ (w:World) (A:Nat→Prop) (β:Env) (base:Nat):Option kV→List (Array Value)→Prop
 |none,_=>True
 |some L,acts=>∃ l D fn tmps pre post,β eu=some ⟨l,0,none⟩∧acts=pre ++ tmps::#[.int .i64 (l:Int)]::post∧post.length+2=L.depth∧
   w.heap[l]? =some (.loop { state:=L.state.state,pending:=L.state.jump,fn:=fn,tmps:=tmps,params:=L.ps,assign:=L.assign,body:=L.body,defers:=D })∧¬ A l∧base≤l
theorem iZ.mono {w w':World} {A A':Nat→Prop} {β β':Env} {base:Nat} {L:Option kV} {acts:List (Array Value)} (ho:La w w') (hn:New A A' w) (hβ:L≠none→β' eu=β eu) (h:iZ w A β base L acts):iZ w' A' β' base L acts:=by
 cases L with
 |none=>trivial
 |some L=>
  obtain⟨l,D,fn,tmps,pre,post,h1,h2,h3,h4,h5,h6⟩:=h
  exact⟨l,D,fn,tmps,pre,post,(hβ (by simp)).trans h1,h2,h3,ho _ _ h4 rfl,fun ha=>h5 (hn _ _ h4 rfl ha),h6⟩
structure Rel (w:World) (A:Nat→Prop) (β:Env) (base:Nat) (σ:St) (tmps:Array Value) (acts:List (Array Value)):Prop where
 fr:kR w A β σ.fr tmps
 stk:ja w A β σ.stk acts
 blk:∀ id b,σ.bk id=some b→(β id=none∧b.cells=[])∨∃ ad,β id=some ad∧vX w A β base b ad
 inj:∀ i j a b,σ.bk i≠none→σ.bk j≠none→β i=some a→β j=some b→a.block=b.block→i=j
 low:∀ k,A k→k<w.heap.size
 top:base≤w.heap.size
 glo:A7 w A
 lp:iZ w A β base σ.loop acts
structure Turn (A A':Nat→Prop) (base:Nat) (w w':World):Prop where
 ext:Ext A w w'
 grows:∀ k,A k→A' k
 below:Below base w w'
 old:∀ k,A' k→k<base→A k
 side:Side A A' w w'
theorem Turn.refl (A:Nat→Prop) (base:Nat) (w:World):Turn A A base w w:=⟨.refl _ _,fun _ h=>h, .refl _ _,fun _ h _=>h, .refl _ _⟩
theorem Turn.trans {A A' A'':Nat→Prop} {base:Nat} {a b c:World} (h:Turn A A' base a b) (k:Turn A' A'' base b c):Turn A A'' base a c:=
 ⟨h.ext.trans k.ext h.grows,fun x hx=>k.grows x (h.grows x hx),h.below.trans k.below,fun x hx hl=>h.old x (k.old x hx hl) hl,h.side.trans k.side⟩
theorem bI.mono {w w':World} {A A':Nat→Prop} {β β':Env} (hx:Ext A w w') (hA:∀ k,A k→A' k):∀ (cs:List D) (ad:Addr),w'.heap[ad.block]? =w.heap[ad.block]?→
  (∀ id,D.dm id cs=true→β' id=β id)→bI w A β cs ad→bI w' A' β' cs ad
 |[],_,_,_,_=>trivial
 |d::ds,ad,hs,hb,h=>by
  obtain⟨⟨u,h1,h2⟩,h3⟩:=h
  exact⟨⟨u,(kW hs).trans h1,Rep.mono hx hA d u (fun id h=>hb id (by simp[D.dm,h])) h2⟩,bI.mono hx hA ds (aO ad 1) hs (fun id h=>hb id (by simp[D.dm,h])) h3⟩
theorem kR.mono {w w':World} {A A':Nat→Prop} {β β':Env} (hx:Ext A w w') (hA:∀ k,A k→A' k) {f:Fr} {tmps:Array Value} (hb:∀ t id,(f.tm t).has id=true→β' id=β id) (h:kR w A β f tmps):kR w' A' β' f tmps:=
 ⟨h.nt,fun t=>Rep.mono hx hA _ _ (hb t) (h.tm t)⟩
theorem ja.mono {w w':World} {A A':Nat→Prop} {β β':Env} (hx:Ext A w w') (hA:∀ k,A k→A' k):∀ {fs:List Fr} {as:List (Array Value)},(∀ f∈fs,∀ t id,(f.tm t).has id=true→β' id=β id)→ja w A β fs as→ja w' A' β' fs as
 |[],[],_,_=> .nil
 |f::fs,a::as,hb,h=>by
  cases h with
  |cons h1 h2=>exact .cons (kR.mono hx hA (hb f (by simp)) h1) (ja.mono hx hA (fun g hg=>hb g (by simp[hg])) h2)
theorem D.Ku (id:Nat) (d:D):(d.forget id).has id=false:=by
 unfold D.forget;split
 ·rfl
 ·next h=>simpa using h
theorem D.gK {id j:Nat} {d:D} (h:(d.forget id).has j=true):d.has j=true∧j≠id:=by
 unfold D.forget at h;split at h
 ·simp[D.has] at h
 ·refine⟨h,fun e=>?_⟩;subst e;contradiction
theorem D.jf {id j:Nat}:∀ {cs:List D},D.dm j (cs.map (D.forget id))=true→D.dm j cs=true∧j≠id
 |[],h=>by simp[D.dm] at h
 |d::ds,h=>by
  simp only[List.map_cons,D.dm,Bool.or_eq_true] at h ⊢
  rcases h with h | h
  ·exact⟨.inl (D.gK h).1,(D.gK h).2⟩
  ·exact⟨.inr (D.jf h).1,(D.jf h).2⟩
theorem Rep.forget {w:World} {A:Nat→Prop} {β:Env} {d:D} {u:Value} (id:Nat) (h:Rep w A β d u):Rep w A β (d.forget id) u:=by
 unfold D.forget;split
 ·simp[Rep,aG]
 ·exact h
theorem bI.forget {w:World} {A:Nat→Prop} {β:Env} (id:Nat):∀ {cs:List D} {ad:Addr},bI w A β cs ad→bI w A β (cs.map (D.forget id)) ad
 |[],_,_=>trivial
 |_::_,_,⟨⟨u,h1,h2⟩,h3⟩=>⟨⟨u,h1,h2.forget id⟩,bI.forget id h3⟩
theorem kR.forget {w:World} {A:Nat→Prop} {β:Env} {f:Fr} {a:Array Value} (id:Nat) (h:kR w A β f a):kR w A β (f.forget id) a:=⟨h.nt,fun t=>(h.tm t).forget id⟩
theorem ja.forget {w:World} {A:Nat→Prop} {β:Env} (id:Nat):∀ {fs:List Fr} {as:List (Array Value)},ja w A β fs as→ja w A β (fs.map (Fr.forget id)) as
 |_,_, .nil=> .nil
 |_,_, .cons h t=> .cons (h.forget id) (t.forget id)
theorem vX.forget {w:World} {A:Nat→Prop} {β:Env} {base:Nat} {b:fK} {ad:Addr} (id:Nat) (h:vX w A β base b ad):vX w A β base (b.forget id) ad:=
 ⟨h.spot,h.base,h.obj,h.cells.forget id,h.own,h.shared,h.inside⟩
theorem Rel.forget {w:World} {A:Nat→Prop} {β:Env} {base:Nat} {σ:St} {tmps:Array Value} {acts:List (Array Value)} (h:Rel w A β base σ tmps acts) (id:Nat):Rel w A β base (σ.forget id) tmps acts where
 fr:=h.fr.forget id
 stk:=h.stk.forget id
 blk:=fun i b hb=>by
  simp only[St.forget] at hb
  split at hb
  ·simp at hb
  ·simp only[Option.map_eq_some_iff] at hb
   obtain⟨b0,hb0,rfl⟩:=hb
   rcases h.blk i b0 hb0 with⟨h1,h2⟩ | ⟨ad,h1,h2⟩
   ·exact .inl ⟨h1,by simp[fK.forget,h2]⟩
   ·exact .inr ⟨ad,h1,h2.forget id⟩
 inj:=fun i j a b hi hj=>h.inj i j a b (fun e=>hi (by simp only[St.forget];split<;>simp[e])) (fun e=>hj (by simp only[St.forget];split<;>simp[e]))
 low:=h.low
 top:=h.top
 glo:=h.glo
 lp:=by
  show iZ w A β base (if id=eu then none else σ.loop) acts
  split
  ·trivial
  ·exact h.lp
theorem Rel.carry {w w':World} {A A':Nat→Prop} {β β':Env} {base:Nat} {σ:St} {tmps:Array Value} {acts:List (Array Value)} (h:Rel w A β base σ tmps acts)
  (hx:Ext A w w') (hA:∀ k,A k→A' k) (low:∀ k,A' k→k<w'.heap.size) (top:base≤w'.heap.size)
  (hfr:∀ t id,(σ.fr.tm t).has id=true→β' id=β id) (hstk:∀ f∈σ.stk,∀ t id,(f.tm t).has id=true→β' id=β id)
  (hbk:∀ i b,σ.bk i=some b→β' i=β i∧(∀ id,D.dm id b.cells=true→β' id=β id)∧∀ ad,β i=some ad→w'.heap[ad.block]? =w.heap[ad.block]?∧(A' ad.block→A ad.block))
  (hlp:iZ w' A' β' base σ.loop acts):Rel w' A' β' base σ tmps acts where
 fr:=h.fr.mono hx hA hfr
 stk:=h.stk.mono hx hA hstk
 blk:=fun i b hb=>by
  obtain⟨h1,h2,h3⟩:=hbk i b hb
  rcases h.blk i b hb with⟨h4,h5⟩ | ⟨ad,h4,h5⟩
  ·exact .inl ⟨h1.trans h4,h5⟩
  ·obtain⟨h6,h7⟩:=h3 ad h4
   exact .inr ⟨ad,h1.trans h4,⟨h5.spot,h5.base,by rw[h6];exact h5.obj,bI.mono hx hA _ _ h6 h2 h5.cells,fun hr ha=>h5.own hr (h7 ha),fun hr=>hA _ (h5.shared hr),fun c T h8=>h5.inside c T (by rw[←h6];exact h8)⟩⟩
 inj:=fun i j a b hi hj ha hb=>by
  obtain⟨bi,hbi⟩:=Option.ne_none_iff_exists'.1 hi
  obtain⟨bj,hbj⟩:=Option.ne_none_iff_exists'.1 hj
  rw[(hbk i bi hbi).1] at ha
  rw[(hbk j bj hbj).1] at hb
  exact h.inj i j a b hi hj ha hb
 low:=low
 top:=top
 glo:=h.glo.mono hx.same hA
 lp:=hlp
theorem kR.put {w:World} {A:Nat→Prop} {β:Env} {f:Fr} {a:Array Value} (h:kR w A β f a) {d:D} {u:Value} (t:Nat) (hd:Rep w A β d u):kR w A β (f.put t d) (a.setIfInBounds t u):=by
 refine⟨by simp[Fr.put,h.nt],fun i=>?_⟩
 simp only[Fr.put]
 by_cases e:i=t
 ·subst e
  rw[if_pos rfl]
  by_cases hl:i<f.nt
  ·rw[if_pos hl]
   rw[h.nt] at hl
   simp[hl];exact hd
  ·rw[if_neg hl];simp[Rep,aG]
 ·rw[if_neg e]
  have:=h.tm i
  rw[Array.getD_eq_getD_getElem?,Array.getElem?_setIfInBounds_ne (Ne.symm e),←Array.getD_eq_getD_getElem?]
  exact this
theorem Rel.put {w:World} {A:Nat→Prop} {β:Env} {base:Nat} {σ:St} {tmps:Array Value} {acts:List (Array Value)} (h:Rel w A β base σ tmps acts) {d:D} {u:Value} (dst:Option Tmp) (hd:Rep w A β d u):
  Rel w A β base (σ.put dst d) (match dst with | some t=>tmps.setIfInBounds t u | none=>tmps) acts:=by
 cases dst with
 |none=>exact h
 |some t=>exact⟨h.fr.put t hd,h.stk,h.blk,h.inj,h.low,h.top,h.glo,h.lp⟩
theorem Result.wZ {α γ:Type} {r:Result α} {f:α→World→Result γ} {b:γ} {w':World} (h:r.andThen f= .ok b w'):∃ a w1,r= .ok a w1∧f a w1= .ok b w':=by
 cases r with
 |ok a w1=>exact⟨a,w1,rfl,h⟩
 |halt x w1=>cases h
theorem bI.get {w:World} {A:Nat→Prop} {β:Env}:∀ {cs:List D} {ad:Addr},ad.spot=none→bI w A β cs ad→∀ (j:Nat) (d:D),cs[j]? =some d→∃ u,w.cell? (aO ad j)=some u∧Rep w A β d u
 |[],_,_,_,_,_,h=>by simp at h
 |d::ds,ad,hs,h,0,e,he=>by
  simp at he;subst he
  obtain⟨⟨u,h1,h2⟩,_⟩:=h
  refine⟨u,?_,h2⟩
  rw[←h1];congr 1;cases ad;simp at hs;simp[aO,hs]
 |d::ds,ad,hs,h,j+1,e,he=>by
  obtain⟨u,h1,h2⟩:=bI.get rfl h.2 j e (by simpa using he)
  refine⟨u,?_,h2⟩
  rw[fG] at h1;rw[Nat.add_comm j 1];exact h1
theorem bI.qQ {w:World} {A:Nat→Prop} {β:Env}:∀ {cs:List D} {ad:Addr},ad.spot=none→(∀ (j:Nat) (d:D),cs[j]? =some d→∃ u,w.cell? (aO ad j)=some u∧Rep w A β d u)→bI w A β cs ad
 |[],_,_,_=>trivial
 |d::ds,ad,hs,h=>by
  refine⟨?_,bI.qQ rfl fun j e he=>?_⟩
  ·obtain⟨u,h1,h2⟩:=h 0 d (by simp)
   refine⟨u,?_,h2⟩
   rw[←h1];congr 1;cases ad;simp at hs;simp[aO,hs]
  ·obtain⟨u,h1,h2⟩:=h (j+1) e (by simpa using he)
   refine⟨u,?_,h2⟩
   rw[fG,Nat.add_comm 1 j];exact h1
theorem bQ.xQ {w:World} {A:Nat→Prop} {β:Env} (hR:∀ d u,aG w A d u→Rep w A β d u):∀ {cs:List D} {ad:Addr},bQ w A cs ad→bI w A β cs ad
 |[],_,_=>trivial
 |_::_,_,h=>by
  simp only[bQ] at h
  obtain⟨⟨u,h1,h2⟩,h3⟩:=h
  exact⟨⟨u,h1,hR _ _ h2⟩,bQ.xQ hR h3⟩
mutual
theorem aG.rep {w:World} {A:Nat→Prop} {β:Env}:∀ (d:D) (u:Value),aG w A d u→Rep w A β d u
 | .undef,_,h=>by simpa [Rep] using h
 | .v _,_,h=>by simpa [Rep] using h
 | .yld,_,h=>by simp[aG] at h
 | .sh _ _,_,h=>by simpa [Rep] using h
 | .shp _ _,_,h=>by simpa [Rep] using h
 | .emp,_,h=>by simpa [Rep] using h
 | .rc _,_,h=>by simp only[Rep];exact h
 | .oc _,_,h=>by simpa [Rep] using h
 | .pel _ _ _ _,_,h=>by simp[aG] at h
 | .ow _ _ _,_,h=>by simpa [Rep] using h
 | .sl _ _ _ _,_,h=>by simp[aG] at h
 | .ptr _ _,_,h=>by simp[aG] at h
 | .agg cs,u,h=>by
  simp only[aG] at h;simp only[Rep]
  obtain⟨vs,rfl,h⟩:=h
  exact⟨vs,rfl,dU.UJ cs vs h⟩
 | .aS cs,u,h=>by
  simp only[aG] at h;simp only[Rep]
  obtain⟨vs,rfl,h⟩:=h
  exact⟨vs,rfl,dU.UJ cs vs h⟩
 | .fn f cs,u,h=>by
  simp only[aG] at h;simp only[Rep]
  obtain⟨vs,rfl,h⟩:=h
  exact⟨vs,rfl,dU.UJ cs vs h⟩
theorem dU.UJ {w:World} {A:Nat→Prop} {β:Env}:∀ (cs:List D) (vs:List Value),dU w A cs vs→aH w A β cs vs
 |[],_,h=>by simpa [dU,aH] using h
 |d::ds,vs,h=>by
  simp only[dU] at h;simp only[aH]
  obtain⟨x,xs,rfl,h1,h2⟩:=h
  exact⟨x,xs,rfl,aG.rep d x h1,dU.UJ ds xs h2⟩
end
theorem bQ.drop {w:World} {A:Nat→Prop}:∀ {cs:List D} {ad:Addr},ad.spot=none→∀ n,bQ w A cs ad→bQ w A (cs.drop n) (aO ad n)
 |cs,ad,hs,0,h=>by
  have:aO ad 0=ad:=by cases ad;simp at hs;simp[aO,hs]
  rw[this];simpa using h
 |[],_,_,_+1,_=>by simp[bQ]
 |d::ds,ad,hs,n+1,h=>by
  simp only[bQ] at h
  have:=bQ.drop (ad:=aO ad 1) rfl n h.2
  rw[fG,Nat.add_comm 1 n] at this
  simpa using this
theorem bQ.take {w:World} {A:Nat→Prop}:∀ {cs:List D} {ad:Addr} (n:Nat),bQ w A cs ad→bQ w A (cs.take n) ad
 |_,_,0,_=>by simp[bQ]
 |[],_,_+1,_=>by simp[bQ]
 |d::ds,ad,n+1,h=>by
  simp only[bQ,List.take_succ_cons] at h ⊢
  exact⟨h.1,bQ.take n h.2⟩
theorem aH.get {w:World} {A:Nat→Prop} {β:Env}:∀ {cs:List D} {vs:List Value},aH w A β cs vs→∀ (j:Nat) (d:D),cs[j]? =some d→∃ u,vs[j]? =some u∧Rep w A β d u
 |[],_,_,_,_,h=>by simp at h
 |d::ds,vs,h,j,e,he=>by
  simp only[aH] at h
  obtain⟨x,xs,rfl,h1,h2⟩:=h
  cases j with
  |zero=>simp at he;subst he;exact⟨x,by simp,h1⟩
  |succ j=>simpa using aH.get h2 j e (by simpa using he)
theorem aH.qQ {w:World} {A:Nat→Prop} {β:Env}:∀ {cs:List D} {vs:List Value},cs.length=vs.length→(∀ (j:Nat) (d:D),cs[j]? =some d→∃ u,vs[j]? =some u∧Rep w A β d u)→aH w A β cs vs
 |[],vs,hl,_=>by simp at hl;simp[aH,List.length_eq_zero_iff.1 hl.symm]
 |d::ds,[],hl,_=>by simp at hl
 |d::ds,x::xs,hl,h=>by
  simp only[aH]
  refine⟨x,xs,rfl,?_,aH.qQ (by simpa using hl) fun j e he=>?_⟩
  ·obtain⟨u,h1,h2⟩:=h 0 d (by simp);simp at h1;subst h1;exact h2
  ·simpa using h (j+1) e (by simpa using he)
theorem aH.length {w:World} {A:Nat→Prop} {β:Env}:∀ {cs:List D} {vs:List Value},aH w A β cs vs→vs.length=cs.length
 |[],vs,h=>by simp[aH] at h;simp[h]
 |d::ds,vs,h=>by
  simp only[aH] at h
  obtain⟨x,xs,rfl,_,h2⟩:=h
  simp[aH.length h2]
theorem aH.append {w:World} {A:Nat→Prop} {β:Env}:∀ {cs ds:List D} {vs us:List Value},aH w A β cs vs→aH w A β ds us→aH w A β (cs ++ ds) (vs ++ us)
 |[],_,vs,_,h,k=>by simp[aH] at h;subst h;simpa using k
 |d::cs,_,vs,_,h,k=>by
  simp only[aH,List.cons_append] at h ⊢
  obtain⟨x,xs,rfl,h1,h2⟩:=h
  exact⟨x,xs ++ _,rfl,h1,aH.append h2 k⟩
theorem aH.take {w:World} {A:Nat→Prop} {β:Env} {cs:List D} {vs:List Value} (n:Nat) (h:aH w A β cs vs):aH w A β (cs.take n) (vs.take n):=by
 induction n generalizing cs vs with
 |zero=>simp[aH]
 |succ n ih=>
  cases cs with
  |nil=>simp[aH] at h;subst h;simp[aH]
  |cons d ds=>
   simp only[aH] at h
   obtain⟨x,xs,rfl,h1,h2⟩:=h
   simp only[List.take_succ_cons,aH]
   exact⟨x,_,rfl,h1,ih h2⟩
theorem aH.drop {w:World} {A:Nat→Prop} {β:Env} {cs:List D} {vs:List Value} (n:Nat) (h:aH w A β cs vs):aH w A β (cs.drop n) (vs.drop n):=by
 induction n generalizing cs vs with
 |zero=>simpa using h
 |succ n ih=>
  cases cs with
  |nil=>simp[aH] at h;subst h;simp[aH]
  |cons d ds=>
   simp only[aH] at h
   obtain⟨x,xs,rfl,h1,h2⟩:=h
   simpa using ih h2
theorem qy {w:World} {A:Nat→Prop} {β:Env} (P:Program) {ad:Addr} (hs:ad.spot=none):∀ (n i:Nat) (cs:List D) (acc:Array Value),
  (∀ (j:Nat) (d:D),cs[j]? =some d→∃ u,w.cell? (aO ad (i+j))=some u∧Rep w A β d u)→cs.length=n→
  ∃ vs:List Value,(loadCellsFrom ad i n acc).run P w= .ok (acc ++ vs.toArray) w∧aH w A β cs vs
 |0,i,cs,acc,_,hl=>by
  have:cs=[]:=List.length_eq_zero_iff.1 hl
  subst this
  exact⟨[],by simp[loadCellsFrom],by simp[aH]⟩
 |n+1,i,[],acc,_,hl=>by simp at hl
 |n+1,i,d::ds,acc,h,hl=>by
  obtain⟨u,h1,h2⟩:=h 0 d (by simp)
  obtain⟨vs,h3,h4⟩:=qy P hs n (i+1) ds (acc.push u) (fun j e he=>by
   obtain⟨u,k1,k2⟩:=h (j+1) e (by simpa using he)
   exact⟨u,by rw[←k1];congr 2;omega,k2⟩) (by simpa using hl)
  refine⟨u::vs,?_,by simp only[aH];exact⟨u,vs,rfl,h2,h4⟩⟩
  simp only[loadCellsFrom,Sem.run_bind,run_load]
  rw[dM _ _ hs]
  have h1':w.cell? (aO ad i)=some u:=h1
  rw[h1']
  simp only[Result.andThen_ok,h3]
  simp
theorem qU {w:World} {A:Nat→Prop} {β:Env} (P:Program) {ad:Addr} (hs:ad.spot=none) {cs:List D} (h:bI w A β cs ad):
  ∃ vs:List Value,(loadCells ad cs.length).run P w= .ok vs.toArray w∧aH w A β cs vs:=by
 obtain⟨vs,h1,h2⟩:=qy P hs cs.length 0 cs #[] (fun j d hj=>by simpa using h.get hs j d hj) rfl
 exact⟨vs,by simpa [loadCells] using h1,h2⟩
def putAt (c:Array Value) (i:Nat):List Value→Array Value
 |[]=>c
 |u::us=>putAt (c.setIfInBounds i u) (i+1) us
theorem kG:∀ (us:List Value) (c:Array Value) (i:Nat),(putAt c i us).size=c.size
 |[],_,_=>rfl
 |u::us,c,i=>by simp[putAt,kG us]
theorem yJ:∀ (us:List Value) (c:Array Value) (i j:Nat),i+us.length≤c.size→(putAt c i us)[j]? =if i≤j∧j<i+us.length then us[j - i]? else c[j]?
 |[],c,i,j,_=>by simp[putAt];omega
 |u::us,c,i,j,h=>by
  simp only[List.length_cons] at h ⊢
  rw[putAt,yJ us _ (i+1) j (by simp;omega)]
  by_cases e:i=j
  ·subst e
   rw[if_neg (by omega),if_pos (by omega)]
   have hi:i<c.size:=by omega
   simp[hi]
  ·by_cases h1:i+1≤j∧j<i+1+us.length
   ·rw[if_pos h1,if_pos (by omega)]
    rw[show j - i=(j - (i+1))+1 from by omega];simp
   ·rw[if_neg h1,if_neg (by omega)]
    simp[Array.getElem?_setIfInBounds_ne e]
theorem iO {w:World} {b o:Nat} {c:Array Value} {T:TypeId} {fz:Nat×Nat} (h:w.heap[b]? =some (.cells c T fz)):w.cell? ⟨b,o,none⟩=c[o]? :=by
 simp[World.cell?,h]
theorem oh (P:Program) (b T:Nat):∀ (us:List Value) (w:World) (c:Array Value) (off i:Nat),w.heap[b]? =some (.cells c T (0,0))→(∀ u∈us,u.oneCell'=true)→off+i+us.length≤c.size→
  ∃ w',(storeCells ⟨b,off,none⟩ us i).run P w= .ok () w'∧w'.heap[b]? =some (.cells (putAt c (off+i) us) T (0,0))∧(∀ k,k≠b→w'.heap[k]? =w.heap[k]?)∧
   w'.os=w.os∧w'.tape=w.tape∧w'.output=w.output∧w'.heap.size=w.heap.size
 |[],w,c,off,i,h,_,_=>⟨w,by simp[storeCells],by simpa [putAt] using h,fun _ _=>rfl,rfl,rfl,rfl,rfl⟩
 |u::us,w,c,off,i,h,ho,hl=>by
  simp only[List.length_cons] at hl
  have hcell:w.cell? ⟨b,off+i,none⟩=c[off+i]? :=iO h
  have hlt:off+i<c.size:=by omega
  have hset:(w.setCell ⟨b,off+i,none⟩ u).heap[b]? =some (.cells (c.setIfInBounds (off+i) u) T (0,0)):=by
   simp[World.setCell,Array.getElem?_modify,h]
  obtain⟨w',h1,h2,h3,h4,h5,h6,h7⟩:=oh P b T us (w.setCell ⟨b,off+i,none⟩ u) (c.setIfInBounds (off+i) u) off (i+1) hset (fun x hx=>ho x (by simp[hx])) (by simp;omega)
  refine⟨w',?_,by rw[h2];simp[putAt,Nat.add_assoc],fun k hk=>?_,?_⟩
  ·simp only[storeCells,Sem.run_bind]
   rw[dM _ _ rfl,run_store _ _ _ _ _ (ho u (by simp))]
   have e1:w.cell? (aO ⟨b,off,none⟩ i)=some c[off+i]:=by
    show w.cell? ⟨b,off+i,none⟩=_
    rw[hcell,Array.getElem?_eq_getElem hlt]
   have e2:w.frozen? (aO ⟨b,off,none⟩ i)=false:=by simp[World.frozen?,aO,h]
   rw[e1,e2]
   simp only[Result.andThen_ok]
   exact h1
  ·rw[h3 k hk];exact Below.heap_setCell _ _ _ _ hk
  ·exact⟨h4.trans rfl,h5.trans rfl,h6.trans rfl,h7.trans (by simp)⟩
section
variable {w w':World} {A:Nat→Prop} {β:Env} {base:Nat} {σ:St} {tmps:Array Value} {acts:List (Array Value)}
theorem Ext.of_heap (h:w'.heap=w.heap):Ext A w w':=⟨fun k _=>by rw[h],fun b m ⟨c,T,fz,h1,h2⟩=>⟨c,T,fz,by rw[h];exact h1,h2⟩⟩
theorem Rel.yN (h:Rel w A β base σ tmps acts) (e:w'.heap=w.heap):Rel w' A β base σ tmps acts:=
 h.carry (.of_heap e) (fun _ h=>h) (fun k hk=>by rw[e];exact h.low k hk) (by rw[e];exact h.top) (fun _ _ _=>rfl) (fun _ _ _ _ _=>rfl) (fun i b hb=>⟨rfl,fun _ _=>rfl,fun ad _=>⟨by rw[e],fun x=>x⟩⟩) (h.lp.mono (.of_heap e) (.refl _ _) (fun _=>rfl))
theorem Rel.JW {cs:List D} {vs:List Value} (h:aH w A β cs vs):aH w.drew A β cs vs:=aH.mono (w:=w) (w':=w.drew) (.of_heap rfl) (fun _ h=>h) _ _ (fun _ _=>rfl) h
theorem Turn.of_heap (e:w'.heap=w.heap) (h1:w'.os=w.os) (h2:w'.tape=w.tape) (h3:w'.output=w.output):Turn A A base w w':=
 ⟨.of_heap e,fun _ h=>h,⟨h1,h2,h3,by rw[e];exact Nat.le_refl _,fun k _=>by rw[e]⟩,fun _ h _=>h, .strict (.of_heap e) (.refl _ _)⟩
theorem La.alloc (w:World) (o:Obj):La w (w.alloc o):=fun k o' hk _=>(Below.heap_alloc w o k (Array.getElem?_eq_some_iff.1 hk).1).trans hk
theorem Ext.alloc (hA:∀ k,A k→k<w.heap.size) (o:Obj):Ext A w (w.alloc o):=
 ⟨fun k hk=>Below.heap_alloc _ _ _ (hA k hk),fun b m ⟨c,T,fz,h1,h2⟩=>⟨c,T,fz,by
  have:b<w.heap.size:=by
   rcases Nat.lt_or_ge b w.heap.size with h | h
   ·exact h
   ·rw[Array.getElem?_eq_none h] at h1;cases h1
  rw[Below.heap_alloc _ _ _ this];exact h1,h2⟩⟩
theorem Turn.alloc (h:Rel w A β base σ tmps acts) (o:Obj):Turn A A base w (w.alloc o):=
 ⟨.alloc h.low o,fun _ h=>h,(Below.refl _ _).alloc h.top o,fun _ h _=>h, .strict (.alloc w o) (.refl _ _)⟩
theorem Rel.alq (h:Rel w A β base σ tmps acts) (o:Obj):Rel (w.alloc o) A β base σ tmps acts:=
 h.carry (.alloc h.low o) (fun _ h=>h) (fun k hk=>by have:=h.low k hk;simp;omega) (by have:=h.top;simp;omega) (fun _ _ _=>rfl) (fun _ _ _ _ _=>rfl)
  (fun i b hb=>⟨rfl,fun _ _=>rfl,fun ad ha=>⟨Below.heap_alloc _ _ _ (by
   rcases h.blk i b hb with⟨h1,_⟩ | ⟨ad',h1,hB⟩
   ·rw[ha] at h1;cases h1
   ·rw[ha] at h1;cases h1
    obtain⟨c,T,hobj⟩:=hB.obj
    exact(Array.getElem?_eq_some_iff.1 hobj).1),fun x=>x⟩⟩) (h.lp.mono (.alloc w o) (.refl _ _) (fun _=>rfl))
def Env.set (β:Env) (id:Nat) (ad:Option Addr):Env:=fun i=>if i=id then ad else β i
theorem Env.dw (β:Env) (id:Nat) (ad:Option Addr):β.set id ad id=ad:=by simp[Env.set]
theorem Env.dX (β:Env) {id i:Nat} (ad:Option Addr) (h:i≠id):β.set id ad i=β i:=by simp[Env.set,h]
theorem Rel.rebind (h:Rel w A β base σ tmps acts) (id:Nat) (oa:Option Addr) (hx:Ext A w w') (top:base≤w'.heap.size) (low:w.heap.size≤w'.heap.size) (ho:La w w')
  (hb:∀ i b ad,i≠id→σ.bk i=some b→β i=some ad→w'.heap[ad.block]? =w.heap[ad.block]?):Rel w' A (β.set id oa) base (σ.forget id) tmps acts:=by
 have hf:=h.forget id
 refine hf.carry hx (fun _ h=>h) (fun k hk=>Nat.lt_of_lt_of_le (h.low k hk) low) top ?_ ?_ ?_ (hf.lp.mono ho (.refl _ _) (fun hne=>Env.dX _ _ (fun e=>hne (by show(if id=eu then none else σ.loop)=none;rw[if_pos e.symm]))))
 ·intro t i hi
  exact Env.dX _ _ (D.gK hi).2
 ·intro f hfm t i hi
  simp only[St.forget,List.mem_map] at hfm
  obtain⟨g,_,rfl⟩:=hfm
  exact Env.dX _ _ (D.gK hi).2
 ·intro i b hbi
  simp only[St.forget] at hbi
  split at hbi
  ·cases hbi
  next hne=>
   simp only[Option.map_eq_some_iff] at hbi
   obtain⟨b0,hb0,rfl⟩:=hbi
   refine⟨Env.dX _ _ hne,fun j hj=>Env.dX _ _ (D.jf hj).2,fun ad had=>⟨hb i b0 ad hne hb0 had,fun x=>x⟩⟩
theorem Rel.setB (h:Rel w A β base σ tmps acts) (id:Nat) (b:fK) (hb:(β id=none∧b.cells=[])∨∃ ad,β id=some ad∧vX w A β base b ad)
  (hi:∀ i a ad,i≠id→σ.bk i≠none→β i=some a→β id=some ad→a.block≠ad.block):Rel w A β base (σ.setB id b) tmps acts where
 fr:=h.fr
 stk:=h.stk
 blk:=fun i c hc=>by
  simp only[St.setB] at hc
  split at hc
  next e=>subst e;simp at hc;subst hc;exact hb
  next e=>exact h.blk i c hc
 inj:=fun i j a c hi' hj' ha hc hac=>by
  by_cases e1:i=id
  ·by_cases e2:j=id
   ·rw[e1,e2]
   ·subst e1
    exact absurd hac.symm (hi j c a e2 (by simpa [St.setB,e2] using hj') hc ha)
  ·by_cases e2:j=id
   ·subst e2
    exact absurd hac (hi i a c e1 (by simpa [St.setB,e1] using hi') ha hc)
   ·exact h.inj i j a c (by simpa [St.setB,e1] using hi') (by simpa [St.setB,e2] using hj') ha hc hac
 low:=h.low
 top:=h.top
 glo:=h.glo
 lp:=h.lp
theorem aH.forget (id:Nat):∀ {cs:List D} {vs:List Value},aH w A β cs vs→aH w A β (cs.map (D.forget id)) vs
 |[],_,h=>by simpa [aH] using h
 |d::ds,vs,h=>by
  simp only[aH,List.map_cons] at h ⊢
  obtain⟨x,xs,rfl,h1,h2⟩:=h
  exact⟨x,xs,rfl,h1.forget id,aH.forget id h2⟩
theorem vP (h:Rel w A β base σ tmps acts) {i:Nat} {b:fK} {ad:Addr} (hb:σ.bk i=some b) (ha:β i=some ad):ad.block<w.heap.size:=by
 rcases h.blk i b hb with⟨h1,_⟩ | ⟨ad',h1,h2⟩
 ·rw[ha] at h1;cases h1
 ·rw[ha] at h1;cases h1
  obtain⟨c,T,ho⟩:=h2.obj
  rcases Nat.lt_or_ge ad.block w.heap.size with h | h
  ·exact h
  ·rw[Array.getElem?_eq_none h] at ho;cases ho
theorem Rel.new (h:Rel w A β base σ tmps acts) (id:Nat) (c:Array Value) (T:TypeId) (cs:List D) (vs:List Value) (hc:aH w A β cs vs) (hv:∀ (j:Nat) u,vs[j]? =some u→c[j]? =some u):
  Rel (w.alloc (.cells c T)) A (β.set id (some ⟨w.heap.size,0,none⟩)) base ((σ.forget id).setB id ⟨cs.map (D.forget id),false⟩) tmps acts:=by
 have hx:Ext A w (w.alloc (.cells c T)):= .alloc h.low _
 have h1:=h.rebind id (some ⟨w.heap.size,0,none⟩) hx (by simp;have:=h.top;omega) (by simp) (.alloc w _) (fun i b ad _ hb ha=>Below.heap_alloc _ _ _ (vP h hb ha))
 refine h1.setB id _ (.inr ⟨_,Env.dw _ _ _,⟨rfl,h.top,⟨c,T,by show(w.heap.push _)[w.heap.size]? =_;simp⟩,?_,fun _ ha=>Nat.lt_irrefl _ (h.low _ ha),fun e=>(by cases e),fun c1 T1 _=>Nat.zero_le _⟩⟩) ?_
 ·refine bI.qQ rfl fun j d hj=>?_
  simp only[List.getElem?_map,Option.map_eq_some_iff] at hj
  obtain⟨d0,hd0,rfl⟩:=hj
  obtain⟨u,hu,hr⟩:=hc.get j d0 hd0
  refine⟨u,?_,?_⟩
  ·have:(w.alloc (.cells c T)).heap[w.heap.size]? =some (.cells c T (0,0)):=by show(w.heap.push _)[w.heap.size]? =_;simp
   show World.cell? _ ⟨w.heap.size,0+j,none⟩=_
   rw[iO this,Nat.zero_add]
   exact hv j u hu
  ·exact Rep.mono hx (fun _ h=>h) _ _ (fun i hi=>Env.dX _ _ (D.gK hi).2) (hr.forget id)
 ·intro i a ad hne hbk ha had
  rw[Env.dw] at had
  cases had
  rw[Env.dX _ _ hne] at ha
  simp only[St.forget,if_neg hne] at hbk
  obtain⟨b,hb⟩:=Option.ne_none_iff_exists'.1 hbk
  simp only[Option.map_eq_some_iff] at hb
  obtain⟨b0,hb0,_⟩:=hb
  have:=vP h hb0 ha
  intro e
  simp at e
  omega
def splice (cs:List D) (off:Nat) (ds:List D):List D:=cs.take off ++ ds ++ cs.drop (off+ds.length)
theorem zT {cs:List D} {off:Nat} {ds:List D} (h:off+ds.length≤cs.length) (j:Nat):(splice cs off ds)[j]? =if off≤j∧j<off+ds.length then ds[j - off]? else cs[j]? :=by
 unfold splice
 rcases Nat.lt_or_ge j off with h1 | h1
 ·rw[if_neg (by omega),List.append_assoc,List.getElem?_append_left (by simp;omega),List.getElem?_take,if_pos h1]
 ·rcases Nat.lt_or_ge j (off+ds.length) with h2 | h2
  ·rw[if_pos ⟨h1,h2⟩,List.append_assoc,List.getElem?_append_right (by simp;omega),List.getElem?_append_left (by simp;omega)]
   congr 1;simp;omega
  ·rw[if_neg (by omega),List.getElem?_append_right (by simp;omega),List.getElem?_drop]
   congr 1;simp;omega
theorem Rel.store (P:Program) (h:Rel w A β base σ tmps acts) {id:Nat} {cells:List D} (hb:σ.bk id=some ⟨cells,false⟩) {ad:Addr} (ha:β id=some ad) {off:Nat} {ds:List D} {vs:List Value}
  (hd:aH w A β ds vs) (ho:∀ u∈vs,u.oneCell'=true) (hl:off+ds.length≤cells.length):
  ∃ w',(storeCells (aO ad off) vs).run P w= .ok () w'∧Rel w' A β base (σ.setB id ⟨splice cells off ds,false⟩) tmps acts∧Turn A A base w w':=by
 rcases h.blk id _ hb with⟨h1,_⟩ | ⟨ad',h1,hB⟩
 ·rw[ha] at h1;cases h1
 rw[ha] at h1;cases h1
 obtain⟨c,T,hobj⟩:=hB.obj
 have hlen:=hd.length
 have hsz:ad.off+off+vs.length≤c.size:=by
  rcases Nat.eq_zero_or_pos cells.length with e | e
  ·have e1:vs.length=0:=by omega
   have e2:off=0:=by omega
   rw[e1,e2]
   have:=hB.inside c T hobj
   omega
  ·have hlast:cells.length - 1<cells.length:=by omega
   obtain⟨u,hu,_⟩:=hB.cells.get hB.spot (cells.length - 1) _ (List.getElem?_eq_getElem hlast)
   have:w.cell? (aO ad (cells.length - 1))=c[ad.off+(cells.length - 1)]? :=iO hobj
   rw[this] at hu
   have:=(Array.getElem?_eq_some_iff.1 hu).1
   omega
 obtain⟨w',r1,r2,r3,r4,r5,r6,r7⟩:=oh P ad.block T vs w c (ad.off+off) 0 hobj ho (by omega)
 have hx:Ext A w w':=⟨fun k hk=>r3 k (fun e=>hB.own rfl (e▸hk)),fun b m ⟨c1,T1,fz1,k1,k2⟩=>by
  by_cases e:b=ad.block
  ·subst e
   rw[hobj] at k1;cases k1
   exact⟨_,T,(0,0),r2,by rw[kG];exact k2⟩
  ·exact⟨c1,T1,fz1,by rw[r3 b e];exact k1,k2⟩⟩
 have hoth:La w w':= .but hobj r3
 refine⟨w',r1,?_,⟨hx,fun _ h=>h,⟨r4,r5,r6,by omega,fun k hk=>r3 k (by have:=hB.base;omega)⟩,fun _ h _=>h, .strict hoth (.refl _ _)⟩⟩
 refine⟨h.fr.mono hx (fun _ h=>h) (fun _ _ _=>rfl),h.stk.mono hx (fun _ h=>h) (fun _ _ _ _ _=>rfl),?_,?_,fun k hk=>by rw[r7];exact h.low k hk,by rw[r7];exact h.top,h.glo.mono hx.same (fun _ h=>h),h.lp.mono hoth (.refl _ _) (fun _=>rfl)⟩
 ·intro i b hbi
  simp only[St.setB] at hbi
  split at hbi
  next e=>
   subst e;simp at hbi;subst hbi
   refine .inr ⟨ad,ha,⟨hB.spot,hB.base,⟨_,T,r2⟩,?_,hB.own,hB.shared,fun c1 T1 h1=>by rw[r2] at h1;cases h1;rw[kG];exact hB.inside c T hobj⟩⟩
   refine bI.qQ hB.spot fun j d hj=>?_
   rw[zT hl] at hj
   have hc':w'.cell? (aO ad j)=(putAt c (ad.off+off+0) vs)[ad.off+j]? :=iO r2
   rw[hc',yJ _ _ _ _ (by omega)]
   split at hj
   next hin=>
    obtain⟨u,hu,hr⟩:=hd.get _ _ hj
    refine⟨u,?_,Rep.mono hx (fun _ h=>h) _ _ (fun _ _=>rfl) hr⟩
    rw[if_pos (by omega),←hu];congr 1;omega
   next hout=>
    obtain⟨u,hu,hr⟩:=hB.cells.get hB.spot j d hj
    refine⟨u,?_,Rep.mono hx (fun _ h=>h) _ _ (fun _ _=>rfl) hr⟩
    rw[if_neg (by omega),←hu]
    exact(iO (o:=ad.off+j) hobj).symm
  next e=>
   rcases h.blk i b hbi with⟨k1,k2⟩ | ⟨a2,k1,k2⟩
   ·exact .inl ⟨k1,k2⟩
   ·have hne:a2.block≠ad.block:=fun e2=>e (h.inj i id a2 ad (by simp[hbi]) (by simp[hb]) k1 ha e2)
    have hsame:=r3 _ hne
    exact .inr ⟨a2,k1,⟨k2.spot,k2.base,by rw[hsame];exact k2.obj,bI.mono hx (fun _ h=>h) _ _ hsame (fun _ _=>rfl) k2.cells,k2.own,k2.shared,fun c1 T1 h1=>k2.inside c1 T1 (by rw[←hsame];exact h1)⟩⟩
 ·intro i j a b hi hj
  refine h.inj i j a b (fun e=>hi ?_) (fun e=>hj ?_)
  ·simp only[St.setB];split
   next e1=>subst e1;rw[hb] at e;cases e
   next=>exact e
  ·simp only[St.setB];split
   next e1=>subst e1;rw[hb] at e;cases e
   next=>exact e
end
theorem run_underlying {P:Program} {t:TypeId} {d:TypeDesc} (h:P.underlying t=some d) (w:World):(underlying t).run P w= .ok d w:=by simp[underlying,h]
theorem run_typeInfo {P:Program} {t:TypeId} {i:TypeInfo} (h:P.info? t=some i) (w:World):(typeInfo t).run P w= .ok i w:=by simp[typeInfo,h]
theorem run_sizeOf {P:Program} {t:TypeId} {i:TypeInfo} (h:P.info? t=some i) (w:World):(sizeOf t).run P w= .ok i.size w:=by simp[sizeOf,run_typeInfo h]
theorem iP {P:Program} {t:TypeId} {i:TypeInfo} {z:Value} (h:P.info? t=some i) (hz:i.zero=some z) (w:World):(zeroValue t).run P w= .ok z w:=by simp[zeroValue,run_typeInfo h,hz]
theorem LY (newLen:Nat):∀ r c,Builtin.growBy newLen r c≤c*2 ^ r∨c<256
 |0,c=> .inl (by simp[Builtin.growBy])
 |r+1,c=>by
  by_cases hc:c<256
  ·exact .inr hc
  ·simp only[Builtin.growBy]
   split
   ·exact .inl (Nat.le_mul_of_pos_right _ (Nat.two_pow_pos _))
   ·rcases LY newLen r (c+(c+768) / 4) with h | h
    ·refine .inl (Nat.le_trans h ?_)
     rw[Nat.pow_succ,Nat.mul_comm (2 ^ r) 2,←Nat.mul_assoc]
     exact Nat.mul_le_mul_right _ (by omega)
    ·omega
theorem nextslicecap_le (need c:Nat) (h:c<need):Builtin.nextslicecap need c≤16*need:=by
 unfold Builtin.nextslicecap
 split
 ·omega
 ·split
  ·omega
  ·rcases LY need 4 c with h1 | h1<;>omega
structure Src (P:Program) (w:World) (size m:Nat) (x:Value) (vs:List Value):Prop where
 len:(Builtin.lenOf x).run P w= .ok m w
 cells:∀ w':World,w'.heap=w.heap→(Builtin.firstCells size m x).run P w'= .ok vs.toArray w'
theorem kL {P:Program} {w w':World} {t t2 ty e:TypeId} {d2:TypeDesc} {i:TypeInfo} (hu:P.underlying t=some (.slice e)) (hi:P.info? e=some i) (hu2:P.underlying t2=some d2) (hd2:∀ k,d2≠ .int k)
  {o:Option Addr} {n c m:Nat} {x:Value} {vs:List Value} (hs:Src P w i.size m x vs) (hfit:n+m≤c)
  (hst:∀ a,o=some a→(storeCells (a.add (n*i.size)) vs).run P w= .ok () w') (hno:o=none→w'=w):
  (Builtin.append_ #[t,t2] ty #[.slice o n c,x]).run P w= .ok (.slice o (n+m) c) w':=by
 have hm:(match d2 with | .int _=>true | _=>false)=false:=by
  cases d2<;>first | rfl | exact absurd rfl (hd2 _)
 cases o with
 |none=>
  have:=hno rfl;subst this
  simp[Builtin.append_,run_underlying hu,run_underlying hu2,run_sizeOf hi,hm,hs.len,hfit,hs.cells _ rfl]
 |some a=>
  simp[Builtin.append_,run_underlying hu,run_underlying hu2,run_sizeOf hi,hm,hs.len,hfit,hs.cells w rfl,hst a rfl]
theorem tX {P:Program} {w:World} {t t2 ty e:TypeId} {d2:TypeDesc} {i:TypeInfo} {z:Value} (hu:P.underlying t=some (.slice e)) (hi:P.info? e=some i) (hz:i.zero=some z) (hu2:P.underlying t2=some d2) (hd2:∀ k,d2≠ .int k)
  (hb1:1≤i.bytes) (hzs:z.cells.size=i.size)
  {o:Option Addr} {n c m:Nat} {x:Value} {vs olds:List Value} (hs:Src P w i.size m x vs) (hfit:c<n+m) (hbytes:(n+m)*i.bytes≤2 ^ 44)
  (hold:∀ w':World,w'.heap=w.heap→(Builtin.firstCells i.size n (.slice o n c)).run P w'= .ok olds.toArray w'):
  ∃ (cap:Nat) (rest:Array Value),n+m≤cap∧rest.size=(cap - (n+m))*i.size∧
   (Builtin.append_ #[t,t2] ty #[.slice o n c,x]).run P w= .ok (.slice (some ⟨w.heap.size,0,none⟩) (n+m) cap) (w.drew.alloc (.cells ((olds ++ vs).toArray ++ rest) e)):=by
 have hm:(match d2 with | .int _=>true | _=>false)=false:=by
  cases d2<;>first | rfl | exact absurd rfl (hd2 _)
 have hneed:n+m≤2 ^ 44:=Nat.le_trans (Nat.le_mul_of_pos_right _ hb1) hbytes
 have h1:¬ (((n+m:Nat):Int) > IntKind.i64.max∧(False∨i.bytes=0)):=by
  rintro⟨_,h | h⟩
  ·exact h
  ·omega
 have h2:¬ (Builtin.nextslicecap (n+m) c*i.bytes > 2 ^ 48):=by
  have h3:=Nat.mul_le_mul_right i.bytes (nextslicecap_le (n+m) c hfit)
  rw[Nat.mul_assoc] at h3
  omega
 refine⟨(Question.appendCap (n+m) c e).cut (w.tape w.drawn (.appendCap (n+m) c e)),Builtin.zeroCells z.cells (((Question.appendCap (n+m) c e).cut (w.tape w.drawn (.appendCap (n+m) c e))) - (n+m)),?_,?_,?_⟩
 ·simp[Question.cut]
 ·simp[Builtin.zeroCells,hzs]
 ·have hb0:i.bytes≠0:=by omega
  have hfit':¬ (n+m≤c):=by omega
  have hcut:∀ w1:World,w1=w.drew→w1.heap=w.heap:=fun _ h=>by rw[h];rfl
  simp[Builtin.append_,run_underlying hu,run_underlying hu2,run_sizeOf hi,run_typeInfo hi,iP hi hz,hm,hs.len,hfit',hb0,Question.forced,hs.cells _ (hcut _ rfl),hold _ (hcut _ rfl),newRow]
  rw[if_neg (by simpa using h2)]
  simp[hs.cells w.drew rfl,hold w.drew rfl]
  simp only[←List.append_toArray,Array.append_assoc]
section
variable {w w':World} {A:Nat→Prop} {β:Env} {base:Nat} {σ:St} {tmps:Array Value} {acts:List (Array Value)}
theorem bI.take {cs:List D} {ad:Addr} (hs:ad.spot=none) (h:bI w A β cs ad) (n:Nat):bI w A β (cs.take n) ad:=
 bI.qQ hs fun j d hj=>by
  rw[List.getElem?_take] at hj
  split at hj
  ·exact h.get hs j d hj
  ·cases hj
theorem bI.drop {cs:List D} {ad:Addr} (hs:ad.spot=none) (h:bI w A β cs ad) (n:Nat):bI w A β (cs.drop n) (aO ad n):=
 bI.qQ rfl fun j d hj=>by
  rw[List.getElem?_drop] at hj
  obtain⟨u,h1,h2⟩:=h.get hs _ d hj
  exact⟨u,by rw[fG];exact h1,h2⟩
theorem Rel.app (P:Program) (h:Rel w A β base σ tmps acts) {id:Nat} {cells:List D} (hb:σ.bk id=some ⟨cells,false⟩) {ad:Addr} (ha:β id=some ad) {off k lim:Nat} {ds:List D} {vs:List Value}
  (hd:aH w A β ds vs) (ho:∀ u∈vs,u.oneCell'=true) (hl:off+k≤cells.length) (hroom:Room w ad.block (ad.off+off+lim)) (hk:k+ds.length≤lim):
  ∃ w',(storeCells (aO ad (off+k)) vs).run P w= .ok () w'∧Rel w' A (β.set id (some (aO ad off))) base ((σ.forget id).setB id ⟨((cells.drop off).take k ++ ds).map (D.forget id),false⟩) tmps acts∧Turn A A base w w'∧
   Room w' ad.block (ad.off+off+lim):=by
 rcases h.blk id _ hb with⟨h1,_⟩ | ⟨ad',h1,hB⟩
 ·rw[ha] at h1;cases h1
 rw[ha] at h1;cases h1
 obtain⟨c,T,hobj⟩:=hB.obj
 have hlen:=hd.length
 obtain⟨c2,T2,fz2,hobj2,hlim⟩:=hroom
 rw[hobj] at hobj2;cases hobj2
 obtain⟨w',r1,r2,r3,r4,r5,r6,r7⟩:=oh P ad.block T vs w c (ad.off+(off+k)) 0 hobj ho (by omega)
 have hx:Ext A w w':=⟨fun j hj=>r3 j (fun e=>hB.own rfl (e▸hj)),fun b m ⟨c1,T1,fz1,k1,k2⟩=>by
  by_cases e:b=ad.block
  ·subst e
   rw[hobj] at k1;cases k1
   exact⟨_,T,(0,0),r2,by rw[kG];exact k2⟩
  ·exact⟨c1,T1,fz1,by rw[r3 b e];exact k1,k2⟩⟩
 have hne:∀ i b a2,i≠id→σ.bk i=some b→β i=some a2→a2.block≠ad.block:=fun i b a2 hne hbi hai e=>hne (h.inj i id a2 ad (by simp[hbi]) (by simp[hb]) hai ha e)
 have h1:=h.rebind (w':=w') id (some (aO ad off)) hx (by rw[r7];exact h.top) (by omega) (.but hobj r3) (fun i b a2 hi hbi hai=>r3 _ (hne i b a2 hi hbi hai))
 refine⟨w',r1,?_,⟨hx,fun _ h=>h,⟨r4,r5,r6,by omega,fun j hj=>r3 j (by have:=hB.base;omega)⟩,fun _ h _=>h, .strict (.but hobj r3) (.refl _ _)⟩,⟨_,T,(0,0),r2,by rw[kG];exact hlim⟩⟩
 refine h1.setB id _ (.inr ⟨_,Env.dw _ _ _,⟨rfl,hB.base,⟨_,T,r2⟩,?_,hB.own,hB.shared,fun c1 T1 h1=>by
  have h1':w'.heap[ad.block]? =some (.cells c1 T1 (0,0)):=h1
  rw[r2] at h1';cases h1';rw[kG];simp;omega⟩⟩) ?_
 ·have hrep:∀ (d:D) u,Rep w A β d u→Rep w' A (β.set id (some (aO ad off))) (d.forget id) u:=fun d u hr=>
   Rep.mono hx (fun _ h=>h) _ _ (fun i hi=>Env.dX _ _ (D.gK hi).2) (hr.forget id)
  have hkl:((cells.drop off).take k).length=k:=by simp;omega
  refine bI.qQ rfl fun j d hj=>?_
  simp only[List.getElem?_map,Option.map_eq_some_iff] at hj
  obtain⟨d0,hd0,rfl⟩:=hj
  have hc':w'.cell? (aO (aO ad off) j)=(putAt c (ad.off+(off+k)+0) vs)[ad.off+off+j]? :=by rw[fG];rw[Nat.add_assoc ad.off off j];exact iO (o:=ad.off+(off+j)) r2
  rw[hc',yJ _ _ _ _ (by omega)]
  rcases Nat.lt_or_ge j k with hjk | hjk
  ·rw[List.getElem?_append_left (by omega),List.getElem?_take,if_pos hjk,List.getElem?_drop] at hd0
   obtain⟨u,hu,hr⟩:=hB.cells.get hB.spot _ d0 hd0
   refine⟨u,?_,hrep _ _ hr⟩
   rw[if_neg (by omega),←hu,Nat.add_assoc]
   exact(iO (o:=ad.off+(off+j)) hobj).symm
  ·rw[List.getElem?_append_right (by omega),hkl] at hd0
   obtain⟨u,hu,hr⟩:=hd.get _ _ hd0
   have hjl:=(List.getElem?_eq_some_iff.1 hd0).1
   refine⟨u,?_,hrep _ _ hr⟩
   rw[if_pos (by omega),←hu];congr 1;omega
 ·intro i a a2 hi hbk hai ha2
  rw[Env.dw] at ha2
  cases ha2
  rw[Env.dX _ _ hi] at hai
  simp only[St.forget,if_neg hi] at hbk
  obtain⟨b,hbb⟩:=Option.ne_none_iff_exists'.1 hbk
  simp only[Option.map_eq_some_iff] at hbb
  obtain⟨b0,hb0,_⟩:=hbb
  exact hne i b0 a hi hb0 hai
end
inductive Eff where
 |val (d:D)
 |box (cs:List D)
 |row (cs:List D) (n sz:Nat)
 |row0
 |sto (id off:Nat) (ds:List D)
 |app (dst:D) (sz m:Nat) (ds:List D)
 |cpy (id off:Nat) (ds:List D) (u:Value)
def D.cells:D→Option (List D)
 | .agg cs=>some cs
 | .v x=>some (x.cells.toList.map .v)
 | .sh n cs=>some [.sh n cs]
 | .sl id off n sz=>some [.sl id off n sz]
 | .ptr id off=>some [.ptr id off]
 | .shp cs off=>some [.shp cs off]
 | .emp=>some [.emp]
 | .fn f cs=>some [.fn f cs]
 | .rc cs=>some [.rc cs]
 | .pel id i n j=>some [.pel id i n j]
 |_=>none
def D.one:D→Bool
 | .v x=>x.oneCell'
 | .emp | .sh _ _ | .sl _ _ _ _ | .ptr _ _ | .shp _ _ | .fn _ _ | .rc _ | .pel _ _ _ _=>true
 |_=>false
def Zu (P:Program) (t:TypeId):Option (Nat×TypeDesc):=
 match P.info? t,P.underlying t with
 |some i,some d=>some (i.size,d)
 |_,_=>none
def aks:TypeDesc→Bool
 | .struct _ | .array _ _=>true
 |_=>false
def D.behind (bk:Nat→Option fK):D→Option (List D×Nat)
 | .ptr id off=>(bk id).map fun b=>(b.cells,off)
 | .pel id i n j=>(bk id).map fun b=>(b.cells,i*n+j)
 | .shp cs off=>some (cs,off)
 |_=>none
def takeD (P:Program) (t:TypeId) (cs:List D) (off:Nat):Option D:=
 match Zu P t with
 |none=>none
 |some (sz,d)=>
  if aks d then(if 0<sz∧off+sz≤cs.length then some (.agg ((cs.drop off).take sz)) else none)
  else cs[off]?
def S9 (P:Program) (bk:Nat→Option fK) (t:TypeId) (a:D):Option Eff:=
 match a.behind bk with
 |none=>none
 |some (cs,off)=>(takeD P t cs off).map .val
def wM (P:Program) (t:TypeId) (a x:D):Option Eff:=
 match a,x.cells,P.info? t with
 | .ptr id off,some ds,some i=>if ds.length=i.size∧ds.all D.one then some (.sto id off ds) else none
 | .pel id i0 n j,some ds,some i=>if ds.length=i.size∧ds.all D.one then some (.sto id (i0*n+j) ds) else none
 |_,_,_=>none
def EH (P:Program) (t:TypeId):Option (List D):=
 match P.info? t with
 |none=>none
 |some i=>match i.zero with
  |none=>none
  |some z=>some (z.cells.toList.map .v)
def y5 (place:Nat→Option (Nat×Nat)) (cells:List D):List (Nat×D)→Option (List D)
 |[]=>some cells
 |(i,x)::rest=>
  match place i,x.cells with
  |some (off,size),some ds=>if ds.length=size∧off+size≤cells.length then y5 place (splice cells off ds) rest else none
  |_,_=>none
def IX (P:Program) (t:TypeId) (parts:List (Nat×D)):Option Eff:=
 match EH P t,P.underlying t with
 |some zero,some (.struct fields)=>
  if fields.toList.all (fun f=>(P.info? f.type).isSome) then
   (y5 (fun i=>(fields.toList.map fun f=>(f.offset,((P.info? f.type).map (·.size)).getD 0))[i]?) zero parts).map fun cs=> .val (.agg cs)
  else none
 |some zero,some (.array _ elem)=>
  match P.info? elem with
  |none=>none
  |some j=>(y5 (fun i=>some (i*j.size,j.size)) zero parts).map fun cs=> .val (.agg cs)
 |_,_=>none
def uX (P:Program) (s:Sem Value):Option Eff:=(dK P s).map fun u=> .val (D.oV u)
def indexOf:D→Option Int
 | .v (.int _ i)=>some i
 |_=>none
def Col.cell (i:Nat):Col→D
 | .ints k xs=> .v (.int k (xs.getD i 0))
 | .bools xs=> .v (.bool (xs.getD i false))
 | .rows _ f=> .rc ((f i).map ay.up)
def Col.part (l n:Nat):Col→Col
 | .ints k xs=> .ints k ((xs.drop l).take n)
 | .bools xs=> .bools ((xs.drop l).take n)
 | .rows _ f=> .rows n fun i=>f (i+l)
def jh (cs:List Col):List D:=(List.range (rowLen cs)).flatMap fun i=>cs.map (Col.cell i)
abbrev aC (cs:List ay):List D:=jh (cs.map ay.up)
def Au (P:Program) (t:TypeId) (cs:List Col) (ix:D):Option Eff:=
 match P.underlying t,indexOf ix with
 |some (.slice elem),some i=>match P.info? elem with
  |none=>none
  |some j=>if j.size=cs.length∧0≤i∧i<rowLen cs then some (.val (.shp (cs.map (Col.cell i.toNat)) 0)) else none
 |_,_=>none
def lV (P:Program) (t:TypeId) (x ix:D):Option Eff:=
 match indexOf ix,P.underlying t with
 |some i,some (.array len elem)=>
  match P.info? elem with
  |none=>none
  |some j=>if 0≤i∧i<len then match x with
    | .ptr id off=>some (.val (.ptr id (off+i.toNat*j.size)))
    | .pel id i0 n0 j0=>some (.val (.pel id i0 n0 (j0+i.toNat*j.size)))
    | .shp cs off=>some (.val (.shp cs (off+i.toNat*j.size)))
    |_=>none
   else none
 |some i,some (.slice elem)=>
  match P.info? elem with
  |none=>none
  |some j=>match x with
   | .sl id off n sz=>if 0≤i∧i<n then some (.val (.pel id i.toNat j.size off)) else none
   | .sh n cs=>if 0≤i∧i<n then some (.val (.shp cs (i.toNat*j.size))) else none
   |_=>none
 |_,_=>none
def kH (P:Program) (t:TypeId) (x ix:D):Option Eff:=
 match x with
 | .rc cs=>Au P t cs ix
 |x=>lV P t x ix
def oD (P:Program) (t:TypeId) (x:D) (f:Nat):Option Eff:=
 match P.underlying t with
 |some (.struct fields)=>match fields[f]? with
  |none=>none
  |some f=>match P.info? f.type with
   |none=>none
   |some j=>if j.size=0 then none else match x with
    | .ptr id off=>some (.val (.ptr id (off+f.offset)))
    | .pel id i n j=>some (.val (.pel id i n (j+f.offset)))
    | .shp cs off=>some (.val (.shp cs (off+f.offset)))
    |_=>none
 |_=>none
def KH (P:Program) (t:TypeId) (x:D) (f:Nat):Option Eff:=
 match P.underlying t,x with
 |some (.struct fields), .agg cs=>match fields[f]? with
  |none=>none
  |some f=>(takeD P f.type cs f.offset).map .val
 |_,_=>none
def zu (P:Program) (t:TypeId) (x ix:D):Option Eff:=
 match indexOf ix,P.underlying t,x with
 |some i,some (.array len elem), .agg cs=>
  match P.info? elem with
  |none=>none
  |some j=>if 0≤i∧i<len then(takeD P elem cs (i.toNat*j.size)).map .val else none
 |some i,some .string, .v (.string s)=>if 0≤i then match s[i.toNat]? with
   |some b=>some (.val (.v (.int .u8 b.toNat)))
   |none=>none
  else none
 |_,_,_=>none
def wF (x:D) (i:Nat):Option Eff:=
 match x with
 | .aS cs=>(cs[i]?).map .val
 |_=>none
def dP (d:Option D) (dflt most:Nat):Option Nat:=
 match d with
 |none=>some dflt
 |some (.v (.int _ i))=>if 0≤i∧i≤most then some i.toNat else none
 |some _=>none
def BQ (P:Program) (t:TypeId) (cs:List Col) (lo hi:Option D):Option Eff:=
 match P.underlying t with
 |some (.slice elem)=>match P.info? elem,dP hi (rowLen cs) (rowLen cs) with
  |some j,some h=>match dP lo 0 h with
   |none=>none
   |some l=>if j.size=cs.length then some (.val (.rc (cs.map (Col.part l (h - l))))) else none
  |_,_=>none
 |_=>none
def lG (P:Program) (bk:Nat→Option fK) (t:TypeId) (x:D) (lo hi:Option D):Option Eff:=
 match P.underlying t,x with
 |some (.array n elem), .ptr id off=>
  match P.info? elem,dP hi n n with
  |some j,some h=>match dP lo 0 h with
   |none=>none
   |some l=>match bk id with
    |some b=>if off+n*j.size≤b.cells.length then some (.val (.sl id (off+l*j.size) (h - l) ⟨j.size,0⟩)) else none
    |none=>none
  |_,_=>none
 |some (.slice elem), .sh n cs=>
  match P.info? elem,dP hi n n with
  |some j,some h=>match dP lo 0 h with
   |none=>none
   |some l=>some (.val (.sh (h - l) ((cs.drop (l*j.size)).take ((h - l)*j.size))))
  |_,_=>none
 |some (.slice elem), .sl id off n sz=>
  match P.info? elem,dP hi n (max n sz.r) with
  |some j,some h=>match dP lo 0 h with
   |none=>none
   |some l=>if sz.s=j.size then some (.val (.sl id (off+l*sz.s) (h - l) ⟨sz.s,max n sz.r - l⟩)) else none
  |_,_=>none
 |some (.slice elem), .v (.slice none 0 0)=>
  match P.info? elem,dP hi 0 0 with
  |some _,some h=>match dP lo 0 h with
   |none=>none
   |some _=>some (.val (.v (.slice none 0 0)))
  |_,_=>none
 |some .string, .v (.string s)=>
  match dP hi s.size s.size with
  |some h=>match dP lo 0 h with
   |none=>none
   |some l=>some (.val (.v (.string (s.extract l h))))
  |none=>none
 |_,_=>none
def xM (P:Program) (bk:Nat→Option fK) (t:TypeId) (x:D) (lo hi:Option D):Option Eff:=
 match x with
 | .rc cs=>BQ P t cs lo hi
 |x=>lG P bk t x lo hi
def BI:D→Bool
 | .v (.int _ 0)=>true
 |_=>false
def J6 (x:D) (lo:Option D) (h mx:D):Option Eff:=
 match x,lo,h,mx with
 | .sl _ _ n _,some (.v (.int _ l)), .v (.int _ h), .v (.int _ m)=>if 0≤l∧l≤h∧h≤m∧m≤n then some (.val .undef) else none
 |_,_,_,_=>none
def yQ (P:Program) (t:TypeId) (x:D) (lo hi:Option D) (mx:D):Option Eff:=
 match P.underlying t,hi with
 |some (.slice elem),some h=>
  match P.info? elem with
  |none=>none
  |some _=>if BI mx∧BI h∧lo.all BI then match x with
    | .sh n _=>if n=0 then none else some (.val .emp)
    | .sl _ _ n sz=>if max n sz.r=0 then none else some (.val .emp)
    | .emp=>some (.val .emp)
    | .v (.slice none 0 0)=>some (.val (.v (.slice none 0 0)))
    |_=>none
   else J6 x lo h mx
 |_,_=>none
def lN (P:Program) (t:TypeId) (len cap:D):Option Eff:=
 match P.underlying t,indexOf len,indexOf cap with
 |some (.slice elem),some l,some c=>
  match P.info? elem,EH P elem with
  |some j,some z=>if 0≤l∧l≤c∧c*j.bytes≤2 ^ 40∧c≤2 ^ 40∧z.length=j.size then some (.row (List.replicate c.toNat z).flatten l.toNat j.size) else none
  |_,_=>none
 |_,_,_=>none
def rowOf (cs:List D) (n sz:Nat):Eff:=match n with
 |0=> .row0
 |n+1=> .row cs (n+1) sz
def pX (P:Program) (t:TypeId) (len:Nat) (parts:List (Nat×D)):Option Eff:=
 match P.underlying t with
 |some (.slice elem)=>
  match P.info? elem,EH P elem with
  |some j,some z=>if len*j.size≤2 ^ 24∧z.length=j.size then(y5 (fun i=>some (i*j.size,j.size)) (List.replicate len z).flatten parts).map fun cs=>rowOf cs len j.size else none
  |_,_=>none
 |_=>none
def D.len:D→Option Nat
 | .emp=>some 0
 | .rc cs=>some (rowLen cs)
 | .sh n _=>some n
 | .sl _ _ n _=>some n
 | .v (.slice _ n _)=>some n
 | .v (.string s)=>some s.size
 |_=>none
def lenD (P:Program) (t:TypeId) (x:D):Option Eff:=
 match P.underlying t with
 |some (.slice _)=>match x with
  | .sh n _=>some (.val (.v (goInt n)))
  | .sl _ _ n _=>some (.val (.v (goInt n)))
  | .v (.slice _ n _)=>some (.val (.v (goInt n)))
  | .emp=>some (.val (.v (goInt 0)))
  | .rc cs=>some (.val (.v (goInt (rowLen cs))))
  |_=>none
 |some .string=>match x with
  | .v (.string s)=>some (.val (.v (goInt s.size)))
  |_=>none
 |some (.array n _)=>some (.val (.v (goInt n)))
 |_=>none
def D.elems (bk:Nat→Option fK) (size:Nat):D→Option (Nat×List D)
 | .sh n cs=>if n*size=cs.length then some (n,cs) else none
 | .rc cs=>if cs.length=size then some (rowLen cs,jh cs) else none
 | .sl id off n sz=>match bk id with
  |some b=>if sz.s=size∧off+n*size≤b.cells.length then some (n,(b.cells.drop off).take (n*size)) else none
  |none=>none
 | .v (.slice none 0 0)=>some (0,[])
 | .emp=>some (0,[])
 |_=>none
def kJ (s:D) (sz m:Nat) (ds:List D):Eff:=match m with
 |0=> .val s
 |m+1=> .app s sz (m+1) ds
def jQ (P:Program) (bk:Nat→Option fK) (ts:Array TypeId) (s x:D):Option Eff:=
 match ts with
 |⟨[t,t2]⟩=>match P.underlying t,P.underlying t2 with
  |some (.slice e),some (.slice _)=>match P.info? e with
   |some j=>match j.zero with
    |some z=>if 1≤j.bytes∧z.cells.size=j.size then match x.elems bk j.size with
      |some (m,ds)=>if ds.all D.one then match s with
        | .v (.slice none 0 0)=>if m*j.bytes≤2 ^ 44 then some (.app s j.size m ds) else none
        | .emp=>if m*j.bytes≤2 ^ 44 then some (kJ s j.size m ds) else none
        | .sl _ _ n sz=>if sz.s=j.size∧(n+m)*j.bytes≤2 ^ 44 then some (kJ s j.size m ds) else none
        |_=>none
       else none
      |none=>none
     else none
    |none=>none
   |none=>none
  |_,_=>none
 |_=>none
def YC (P:Program) (bk:Nat→Option fK) (ts:Array TypeId) (d x:D):Option Eff:=
 match ts with
 |⟨[t,_]⟩=>match P.underlying t with
  |some (.slice e)=>match P.info? e with
   |some j=>match d,x.elems bk j.size with
    | .sl id off n sz,some (m,ds)=>if sz.s=j.size∧n≠0∧ds.all D.one then some (.cpy id off (ds.take (Nat.min m n*sz.s)) (goInt (Nat.min m n))) else none
    |_,_=>none
   |none=>none
  |_=>none
 |_=>none
def Qd (P:Program) (ts:Array TypeId) (d:D):Option Eff:=
 match ts with
 |⟨[t]⟩=>match P.underlying t with
  |some (.slice e)=>match P.info? e with
   |some j=>match j.zero with
    |some z=>match d with
     | .sl id off n sz=>if n≠0∧sz.s=j.size∧z.cells.toList.all Value.oneCell' then some (.cpy id off ((Builtin.zeroCells z.cells n).toList.map .v) (.tuple #[])) else none
     |_=>none
    |none=>none
   |none=>none
  |_=>none
 |_=>none
def jv:D→Nat
 | .emp=>1
 | .sh n _=>if n=0 then 0 else 1
 | .sl _ _ n _=>if n=0 then 0 else 1
 | .ptr _ _ | .shp _ _ | .pel _ _ _ _=>2
 | .fn _ _=>3
 | .rc _=>bif iG.walked PS then 1 else 0
 |_=>0
def F5:D→Nat
 | .v (.slice none 0 0)=>1
 | .v (.pointer none)=>2
 | .v .nilFunc=>3
 |_=>0
def gX:TypeDesc→Nat
 | .slice _=>1
 | .pointer _=>2
 | .func _ _ _=>3
 |_=>4
def Gy (P:Program) (op:BinOp) (t:TypeId) (a b:D):Option Eff:=
 match P.underlying t with
 |some d=>if(jv a=gX d∧F5 b=gX d)∨(F5 a=gX d∧jv b=gX d) then match op with
   | .eql=>some (.val (.v (.bool false)))
   | .neq=>some (.val (.v (.bool true)))
   |_=>none
  else none
 |none=>none
def D.wR (ds:List D):Option (List Value):=ds.mapM D.plain
def intD (op:BinOp) (k k':IntKind) (p q:Int):Option D:=
 match op with
 | .shl | .shr=>if 0≤q then some (.v (.int k (ai op k p q))) else none
 | .quo | .rem=>if k=k' then if q=0 then none else some (.v (.int k (ai op k p q))) else none
 | .add | .sub | .mul | .and | .or | .xor | .andNot=>if k=k' then some (.v (.int k (ai op k p q))) else none
 | .eql | .neq | .lss | .leq | .gtr | .geq=>if k=k' then some (.v (.bool (ah op p q))) else none
def jJ (op:BinOp) (p q:Int):Int:=bif ah op q p then q else p
def JX (op:BinOp) (k:IntKind) (p:Int):List D→Option D
 |[]=>some (.v (.int k p))
 | .v (.int k' q)::ds=>if k=k' then JX op k (jJ op p q) ds else none
 |_=>none
def aeH (op:BinOp):List D→Option D
 | .v (.int k p)::ds=>JX op k p ds
 |_=>none
def unD (op:UnOp) (a:D):Option D:=
 match op,a with
 | .not, .v (.bool p)=>some (.v (.bool (!p)))
 | .neg, .v (.int k p)=>some (.v (.int k (ai .sub k 0 p)))
 | .xor, .v (.int k p)=>some (.v (.int k (ai .xor k (if k.signed then -1 else k.max) p)))
 |_,_=>none
def ac6 (P:Program) (src dst:TypeId) (a:D):Option D:=
 match a,P.underlying src,P.underlying dst with
 | .v (.int _ p),some _,some (.int k)=>some (.v (.int k (k.wrap p)))
 |_,_,_=>none
def aeN (c:Bool) (a b:D):D:=
 match a,b with
 | .v (.int k p), .v (.int k' q)=>if k=k' then .v (.int k (bif c then p else q)) else bif c then a else b
 | .v (.bool p), .v (.bool q)=> .v (.bool (bif c then p else q))
 |a,b=>bif c then a else b
def eqFields (P:Program) (f:TypeId→D→D→Option Bool) (xs ys:List D):List Field→Option Bool
 |[]=>some true
 | fd :: l => if fd.name ≠ "_" then match takeD P fd.type xs fd.offset, takeD P fd.type ys fd.offset with
   |some x,some y=>match f fd.type x y,eqFields P f xs ys l with
    |some s,some r=>some (s && r)
    |_,_=>none
   |_,_=>none
  else eqFields P f xs ys l
def AX (P:Program) (f:D→D→Option Bool) (elem:TypeId) (size:Nat) (xs ys:List D) (i:Nat):Nat→Option Bool
 |0=>some true
 |n+1=>match takeD P elem xs (i*size),takeD P elem ys (i*size) with
  |some x,some y=>match f x y,AX P f elem size xs ys (i+1) n with
   |some s,some r=>some (s && r)
   |_,_=>none
  |_,_=>none
def Yz:D→D→Option Bool
 | .v (.bool x), .v (.bool y)=>some (x ==y)
 |_,_=>none
def ac7:D→D→Option Bool
 | .v (.int k x), .v (.int k' y)=>if k=k' then some (x ==y) else none
 |_,_=>none
def eqV (P:Program):Nat→TypeId→D→D→Option Bool
 |0,_,_,_=>none
 |d+1,t,a,b=>match P.underlying t with
  |some .bool=>Yz a b
  |some (.int _)=>ac7 a b
  |some (.struct fields)=>match a,b with
   | .agg xs, .agg ys=>if P.stoodInHeld t then none else eqFields P (eqV P d) xs ys fields.toList
   |_,_=>none
  |some (.array len elem)=>match a,b,P.info? elem with
   | .agg xs, .agg ys,some j=>AX P (eqV P d elem) elem j.size xs ys 0 len
   |_,_,_=>none
  |_=>none
def D9:D→Bool
 | .agg _ | .v (.bool _)=>true
 |_=>false
def eqD (P:Program) (op:BinOp) (t:TypeId) (a b:D):Option D:=
 if D9 a∧D9 b then if P.eqGuardType P.depth t then none else match op with
  | .eql=>(eqV P 20 t a b).map fun e=> .v (.bool e)
  | .neq=>(eqV P 20 t a b).map fun e=> .v (.bool (!e))
  |_=>none
 else none
def Ci (P:Program) (op:BinOp) (t:TypeId) (x y:Operand) (a b:D):Option Eff:=
 match eqD P op t a b with
 |some d=>some (.val d)
 |none=>match a.plain,b.plain with
  |some u,some v=>uX P (do eqGuard op t x y u v;binOp op t u v)
  |_,_=>Gy P op t a b
def abk (P:Program) (op:BinOp) (t:TypeId) (x y:Operand) (a b:D):Option Eff:=
 match a,b with
 | .v (.int k p), .v (.int k' q)=>(intD op k k' p q).map .val
 |a,b=>Ci P op t x y a b
def ahn (P:Program) (uop:UnOp) (a:D):Option Eff:=
 match unD uop a with
 |some d=>some (.val d)
 |none=>match a.plain with
  |some u=>uX P (Op.unary uop u)
  |none=>none
def QA (P:Program) (src dst:TypeId) (a:D):Option Eff:=
 match ac6 P src dst a with
 |some d=>some (.val d)
 |none=>match a.plain with
  |some u=>uX P (convert src dst u)
  |none=>none
def PV (c a b:D):Option Eff:=
 match c with
 | .v (.bool c)=>some (.val (aeN c a b))
 |_=>none
def xJ (op:BinOp) (s:List Value→Option Eff) (ds:List D):Option Eff:=
 match aeH op ds with
 |some d=>some (.val d)
 |none=>match D.wR ds with
  |some vs=>s vs
  |none=>none
def Ze:D→Option Eff
 | .ptr id off=>some (.val (.ptr id off))
 | .pel id i n j=>some (.val (.pel id i n j))
 | .shp cs off=>some (.val (.shp cs off))
 | .fn f cs=>some (.val (.fn f cs))
 |_=>none
def dR (P:Program) (bk:Nat→Option fK) (ρ:Operand→D) (ty:TypeId):Op→Option Eff
 | .move x | .assign x=>some (.val (ρ x))
 | .pick c a b=>PV (ρ c) (ρ a) (ρ b)
 | .alloc t=>(EH P t).map .box
 | .box _ x=>(ρ x).cells.map .box
 | .build t parts=>IX P t (parts.toList.map fun p=>(p.1,ρ p.2))
 | .buildSlice t len parts=>pX P t len (parts.toList.map fun p=>(p.1,ρ p.2))
 | .load t a=>S9 P bk t (ρ a)
 | .store t a x=>wM P t (ρ a) (ρ x)
 | .nilCheck x=>Ze (ρ x)
 | .binOp op t x y _=>abk P op t x y (ρ x) (ρ y)
 | .unOp op _ x=>ahn P op (ρ x)
 | .convert src dst x=>QA P src dst (ρ x)
 | .makeFunc (.func f) first captured=>if first.size=0 then some (.val (.fn f (captured.toList.map ρ))) else none
 | .makeSlice t l c=>lN P t (ρ l) (ρ c)
 | .slice t x lo hi none=>xM P bk t (ρ x) (lo.map ρ) (hi.map ρ)
 | .slice t x lo hi (some mx)=>yQ P t (ρ x) (lo.map ρ) (hi.map ρ) (ρ mx)
 | .fieldAddr t x f=>oD P t (ρ x) f
 | .field t x f=>KH P t (ρ x) f
 | .indexAddr t x ix=>kH P t (ρ x) (ρ ix)
 | .index t x ix=>zu P t (ρ x) (ρ ix)
 | .extract x i=>wF (ρ x) i
 | .call ⟨.builtin .len,⟨[x]⟩,⟨[t]⟩⟩=>lenD P t (ρ x)
 | .call ⟨.builtin .append,⟨[s,x]⟩,ts⟩=>jQ P bk ts (ρ s) (ρ x)
 | .call ⟨.builtin .copy,⟨[d,x]⟩,ts⟩=>YC P bk ts (ρ d) (ρ x)
 | .call ⟨.builtin .clear,⟨[d]⟩,ts⟩=>Qd P ts (ρ d)
 | .call ⟨.builtin .max,xs,ts⟩=>xJ .gtr (fun vs=>uX P (Builtin.max_ ts ty vs.toArray)) (xs.toList.map ρ)
 | .call ⟨.builtin .min,xs,ts⟩=>xJ .lss (fun vs=>uX P (Builtin.min_ ts ty vs.toArray)) (xs.toList.map ρ)
 |_=>none
def eY (σ:St) (dst:Option Tmp) (id:Nat):Eff→Option St
 | .val d=>some (σ.put dst d)
 | .box cs=>some (((σ.forget id).setB id ⟨cs.map (D.forget id),false⟩).put dst (.ptr id 0))
 | .row cs n sz=>some (((σ.forget id).setB id ⟨cs.map (D.forget id),false⟩).put dst (.sl id 0 n ⟨sz,0⟩))
 | .row0=>some (σ.put dst .emp)
 | .sto i off ds=>match σ.bk i with
  |some ⟨cells,false⟩=>if off+ds.length≤cells.length then some ((σ.setB i ⟨splice cells off ds,false⟩).put dst (.v undef)) else none
  |_=>none
 | .cpy i off ds u=>match σ.bk i with
  |some ⟨cells,false⟩=>if off+ds.length≤cells.length then some ((σ.setB i ⟨splice cells off ds,false⟩).put dst (D.oV u)) else none
  |_=>none
 | .app s sz m ds=>match s with
  | .emp=>some (((σ.forget id).setB id ⟨ds.map (D.forget id),false⟩).put dst (.sl id 0 m ⟨sz,0⟩))
  | .v _=>some (((σ.forget id).setB id ⟨ds.map (D.forget id),false⟩).put dst (.sl id 0 m ⟨sz,0⟩))
  | .sl i off n _=>match σ.bk i with
   |some ⟨cells,false⟩=>if off+n*sz≤cells.length then some (((σ.forget i).setB i ⟨((cells.drop off).take (n*sz) ++ ds).map (D.forget i),false⟩).put dst (.sl i 0 (n+m) ⟨sz,0⟩)) else none
   |_=>none
  |_=>none
def acJ:List D→D
 |[]=> .undef
 |d::ds=> .shp (d::ds) 0
def bP (σ:St):Operand→D
 | .tmp t=>σ.fr.tm t
 | .const v=>D.oV v
 | .global g=>acJ (iG.g g)
 | .func f=> .fn f []
section
variable {P:Program} {w:World} {A:Nat→Prop} {β:Env} {base:Nat} {σ:St} {tmps:Array Value} {acts:List (Array Value)}
def Good (P:Program) (w:World) (A:Nat→Prop) (β:Env) (r:Result Next):Eff→Prop
 | .val d=>∃ u,r= .ok (.value u) w∧Rep w A β d u
 | .box cs=>∃ T vs,aH w A β cs vs∧r= .ok (.value (.pointer (some ⟨w.heap.size,0,none⟩))) (w.alloc (.cells vs.toArray T))
 | .row cs n sz=>∃ T vs cap,aH w A β cs vs∧n≤cap∧cap*sz≤vs.length∧r= .ok (.value (.slice (some ⟨w.heap.size,0,none⟩) n cap)) (w.alloc (.cells vs.toArray T))
 | .row0=>∃ T vs,r= .ok (.value (.slice (some ⟨w.heap.size,0,none⟩) 0 0)) (w.alloc (.cells vs T))
 | .sto id off ds=>∃ ad vs,β id=some ad∧aH w A β ds vs∧(∀ u∈vs,u.oneCell'=true)∧r=((storeCells (aO ad off) vs).run P w).andThen fun _ w'=> .ok .skip w'
 | .cpy id off ds u=>∃ ad vs,β id=some ad∧aH w A β ds vs∧(∀ u∈vs,u.oneCell'=true)∧r=((storeCells (aO ad off) vs).run P w).andThen fun _ w'=> .ok (.value u) w'
 | .app s sz m ds=>∃ (t t2 ty e:TypeId) (e2:TypeId) (i:TypeInfo) (z:Value) (o:Option Addr) (n c:Nat) (x:Value) (vs:List Value),
   P.underlying t=some (.slice e)∧P.underlying t2=some (.slice e2)∧P.info? e=some i∧i.zero=some z∧z.cells.size=i.size∧1≤i.bytes∧sz=i.size∧Src P w sz m x vs∧aH w A β ds vs∧
   (∀ u∈vs,u.oneCell'=true)∧(n+m)*i.bytes≤2 ^ 44∧ds.length=m*sz∧Rep w A β s (.slice o n c)∧(∀ id off n' sz',s= .sl id off n' sz'→sz'.s=sz)∧(∀ u,s= .v u→u= .slice none 0 0)∧
   r=((Builtin.append_ #[t,t2] ty #[.slice o n c,x]).run P w).andThen fun v w'=> .ok (.value v) w'
theorem Ko {t:TypeId} {sz:Nat} {d:TypeDesc} (h:Zu P t=some (sz,d)):∃ i,P.info? t=some i∧i.size=sz∧P.underlying t=some d:=by
 unfold Zu at h
 split at h
 next i d' h1 h2=>simp at h;obtain⟨rfl,rfl⟩:=h;exact⟨i,h1,rfl,h2⟩
 next=>cases h
theorem yB {t:TypeId} {d:TypeDesc} (h:P.underlying t=some d) (w:World):(isAgg t).run P w= .ok (aks d) w:=by
 unfold isAgg
 simp only[Sem.run_bind,run_underlying h,Result.andThen_ok]
 cases d<;>rfl
theorem UA {t:TypeId} {cs:List D} {off:Nat} {ad:Addr} {d:D} (hs:ad.spot=none) (hc:bI w A β cs ad) (h:takeD P t cs off=some d):
  ∃ u,(loadVar t (aO ad off)).run P w= .ok u w∧Rep w A β d u:=by
 unfold takeD at h
 split at h
 ·cases h
 next sz dd hi=>
  obtain⟨i,h1,rfl,h2⟩:=Ko hi
  split at h
  next hag=>
   split at h
   next hl=>
    simp at h;subst h
    have hlen:((cs.drop off).take i.size).length=i.size:=by simp;omega
    obtain⟨vs,k1,k2⟩:=qU P rfl ((hc.drop hs off).take rfl i.size)
    refine⟨.agg vs.toArray,?_,by simp only[Rep];exact⟨vs,rfl,k2⟩⟩
    rw[hlen] at k1
    simp[loadVar,yB h2,hag,run_sizeOf h1,k1]
   ·cases h
  next hag=>
   obtain⟨u,k1,k2⟩:=hc.get hs off d h
   refine⟨u,?_,k2⟩
   simp[loadVar,yB h2,hag,k1]
theorem qY {t:TypeId} {cs:List D} {vs:List Value} {off:Nat} {d:D} (hc:aH w A β cs vs) (h:takeD P t cs off=some d):
  ∃ u,(part t vs.toArray off).run P w= .ok u w∧Rep w A β d u:=by
 unfold takeD at h
 split at h
 ·cases h
 next sz dd hi=>
  obtain⟨i,h1,rfl,h2⟩:=Ko hi
  split at h
  next hag=>
   split at h
   next hl=>
    simp at h;subst h
    refine⟨.agg (vs.toArray.extract off (off+i.size)),?_,?_⟩
    ·simp[part,yB h2,hag,run_sizeOf h1]
    ·simp only[Rep]
     refine⟨(vs.drop off).take i.size,?_,(hc.drop off).take _⟩
     congr 1
     apply Array.ext'
     simp[List.extract_eq_take_drop]
   ·cases h
  next hag=>
   obtain⟨u,k1,k2⟩:=hc.get off d h
   refine⟨u,?_,k2⟩
   simp[part,yB h2,hag,k1]
theorem EK (h:Rel w A β base σ tmps acts) {a:D} {va:Value} (ha:Rep w A β a va) {cs:List D} {off:Nat} (hb:a.behind σ.bk=some (cs,off)) (hne:cs≠[]):
  ∃ ad,va= .pointer (some (aO ad off))∧ad.spot=none∧bI w A β cs ad:=by
 cases a with
 |ptr id o=>
  simp only[D.behind,Option.map_eq_some_iff] at hb
  obtain⟨b,hb,he⟩:=hb
  simp at he;obtain⟨rfl,rfl⟩:=he
  simp only[Rep] at ha
  obtain⟨ad,h1,rfl⟩:=ha
  rcases h.blk id b hb with⟨h2,_⟩ | ⟨ad',h2,h3⟩
  ·rw[h1] at h2;cases h2
  ·rw[h1] at h2;cases h2
   exact⟨ad,rfl,h3.spot,h3.cells⟩
 |pel id i n j=>
  simp only[D.behind,Option.map_eq_some_iff] at hb
  obtain⟨b,hb,he⟩:=hb
  simp at he;obtain⟨rfl,rfl⟩:=he
  simp only[Rep] at ha
  obtain⟨ad,h1,rfl⟩:=ha
  rcases h.blk id b hb with⟨h2,_⟩ | ⟨ad',h2,h3⟩
  ·rw[h1] at h2;cases h2
  ·rw[h1] at h2;cases h2
   exact⟨ad,rfl,h3.spot,h3.cells⟩
 |shp c o=>
  simp[D.behind] at hb;obtain⟨rfl,rfl⟩:=hb
  simp only[Rep,aG] at ha
  obtain⟨ad,rfl,h1,_,h2⟩:=ha
  exact⟨ad,rfl,h1,h2.xQ (fun d u h=>aG.rep d u h)⟩
 |_=>simp[D.behind] at hb
theorem uM {x:D} {v:Value} (hr:Rep w A β x v) {cs:List D} (h:x.cells=some cs):aH w A β cs v.cells.toList:=by
 cases x with
 |agg ds=>simp[D.cells] at h;subst h;simp only[Rep] at hr;obtain⟨vs,rfl,hr⟩:=hr;simpa [Value.cells] using hr
 |v y=>simp[D.cells] at h;subst h;simp only[Rep,aG] at hr;subst hr;simpa using aH.oV (w:=w) (A:=A) (β:=β) v.cells.toList
 |sh n ds=>simp[D.cells] at h;subst h;have hr0:=hr;simp only[Rep,aG] at hr;obtain⟨o,c,rfl,_⟩:=hr;simp[Value.cells,aH];exact hr0
 |sl id off n sz=>simp[D.cells] at h;subst h;have hr0:=hr;simp only[Rep] at hr;obtain⟨o,c,rfl,_⟩:=hr;simp[Value.cells,aH];exact hr0
 |ptr id off=>simp[D.cells] at h;subst h;have hr0:=hr;simp only[Rep] at hr;obtain⟨ad,_,rfl⟩:=hr;simp[Value.cells,aH];exact hr0
 |shp ds off=>simp[D.cells] at h;subst h;have hr0:=hr;simp only[Rep,aG] at hr;obtain⟨ad,rfl,_⟩:=hr;simp[Value.cells,aH];exact hr0
 |fn f ds=>simp[D.cells] at h;subst h;have hr0:=hr;simp only[Rep] at hr;obtain⟨vs,rfl,_⟩:=hr;simp[Value.cells,aH];exact hr0
 |emp=>simp[D.cells] at h;subst h;have hr0:=hr;simp only[Rep,aG] at hr;obtain⟨o,rfl⟩:=hr;simp[Value.cells,aH];exact hr0
 |rc ds=>simp[D.cells] at h;subst h;have hr0:=hr;simp only[Rep,aG] at hr;obtain⟨o,c,rfl,_⟩:=hr;simp[Value.cells,aH];exact hr0
 |pel id i n j=>simp[D.cells] at h;subst h;have hr0:=hr;simp only[Rep] at hr;obtain⟨ad,_,rfl⟩:=hr;simp[Value.cells,aH];exact hr0
 |oc _=>simp[D.cells] at h
 |undef=>simp[D.cells] at h
 |ow _ _ _=>simp[D.cells] at h
 |aS _=>simp[D.cells] at h
 |yld=>simp[D.cells] at h
theorem adN {x:D} {v:Value} (hr:Rep w A β x v) (h:x.one=true):v.oneCell'=true:=by
 cases x with
 |v y=>simp[D.one] at h;simp only[Rep,aG] at hr;subst hr;exact h
 |sh n ds=>simp only[Rep,aG] at hr;obtain⟨o,c,rfl,_⟩:=hr;rfl
 |sl id off n sz=>simp only[Rep] at hr;obtain⟨o,c,rfl,_⟩:=hr;rfl
 |ptr id off=>simp only[Rep] at hr;obtain⟨ad,_,rfl⟩:=hr;rfl
 |shp ds off=>simp only[Rep,aG] at hr;obtain⟨ad,rfl,_⟩:=hr;rfl
 |fn f ds=>simp only[Rep] at hr;obtain⟨vs,rfl,_⟩:=hr;rfl
 |emp=>simp only[Rep,aG] at hr;obtain⟨o,rfl⟩:=hr;rfl
 |rc ds=>simp only[Rep,aG] at hr;obtain⟨o,c,rfl,_⟩:=hr;rfl
 |pel id i n j=>simp only[Rep] at hr;obtain⟨ad,_,rfl⟩:=hr;rfl
 |_=>simp[D.one] at h
theorem lZ:∀ {cs:List D} {vs:List Value},aH w A β cs vs→cs.all D.one=true→∀ u∈vs,u.oneCell'=true
 |[],vs,h,_,u,hu=>by simp[aH] at h;subst h;cases hu
 |d::ds,vs,h,ho,u,hu=>by
  simp only[aH] at h
  obtain⟨x,xs,rfl,h1,h2⟩:=h
  simp at ho hu
  rcases hu with rfl | hu
  ·exact adN h1 ho.1
  ·exact lZ h2 (by simpa using ho.2) u hu
inductive xE (w:World) (A:Nat→Prop) (β:Env):List (Nat×D)→List (Nat×Value)→Prop
 |nil:xE w A β [] []
 |cons {i:Nat} {d:D} {v:Value} {ps:List (Nat×D)} {qs:List (Nat×Value)}:Rep w A β d v→xE w A β ps qs→xE w A β ((i,d)::ps) ((i,v)::qs)
theorem sH (place:Nat→Option (Nat×Nat)):∀ (parts:List (Nat×D)) (vparts:List (Nat×Value)) (cells:List D) (vcells:Array Value) (out:List D),
  xE w A β parts vparts→aH w A β cells vcells.toList→y5 place cells parts=some out→
  ∃ vout:Array Value,Instr.fill place vcells vparts=some vout∧aH w A β out vout.toList
 |[],_,cells,vcells,out,hf,hr,h=>by
  cases hf
  simp[y5] at h;subst h
  exact⟨vcells,by simp[Instr.fill],hr⟩
 |(i,x)::rest,_,cells,vcells,out,hf,hr,h=>by
  cases hf with
  |@cons _ _ v _ qs hx h2=>
  simp only[y5] at h
  split at h
  next off size ds hp hc=>
   split at h
   next hl=>
    have hcs:=uM hx hc
    have hlen:=hcs.length
    have hlen2:=hr.length
    simp only[Array.length_toList] at hlen hlen2
    have hput:aH w A β (splice cells off ds) (v.cells.zipIdx.foldl (fun cs (c,j)=>cs.setIfInBounds (off+j) c) vcells).toList:=by
     have hfold:∀ (us:List Value) (k:Nat) (c:Array Value),(us.zipIdx k).foldl (fun cs (c,j)=>cs.setIfInBounds (off+j) c) c=putAt c (off+k) us:=by
      intro us
      induction us with
      |nil=>intro k c;rfl
      |cons u us ih=>intro k c;simp only[List.zipIdx_cons,List.foldl_cons,ih,putAt];rw[Nat.add_assoc]
     have hfold':v.cells.zipIdx.foldl (fun cs (c,j)=>cs.setIfInBounds (off+j) c) vcells=putAt vcells off v.cells.toList:=by
      have:=hfold v.cells.toList 0 vcells
      rw[←Array.foldl_toList,Array.toList_zipIdx]
      simpa using this
     rw[hfold']
     refine aH.qQ ?_ ?_
     ·simp[splice,kG];omega
     ·intro j d hj
      rw[zT (by omega)] at hj
      rw[Array.getElem?_toList,yJ _ _ _ _ (by simp;omega)]
      split at hj
      next hin=>
       obtain⟨u,k1,k2⟩:=hcs.get _ _ hj
       exact⟨u,by rw[if_pos (by simp;omega)];exact k1,k2⟩
      next hout=>
       obtain⟨u,k1,k2⟩:=hr.get _ _ hj
       exact⟨u,by rw[if_neg (by simp;omega)];simpa using k1,k2⟩
    obtain⟨vout,k1,k2⟩:=sH place rest qs _ _ out h2 hput h
    refine⟨vout,?_,k2⟩
    simp only[Instr.fill,hp]
    rw[if_neg (by simp;omega)]
    exact k1
   ·cases h
  ·cases h
theorem uG {ρ:Operand→D} {ρv:Operand→Value} (hρ:∀ x,Rep w A β (ρ x) (ρv x)):∀ (ps:List (Nat×Operand)),xE w A β (ps.map fun p=>(p.1,ρ p.2)) (ps.map fun p=>(p.1,ρv p.2))
 |[]=> .nil
 |p::ps=> .cons (hρ _) (uG hρ ps)
theorem rQ {t:TypeId} {z:List D} (h:EH P t=some z):∃ i v,P.info? t=some i∧i.zero=some v∧z=v.cells.toList.map .v:=by
 unfold EH at h
 split at h
 ·cases h
 next i hi=>
  split at h
  ·cases h
  next v hv=>simp at h;exact⟨i,v,hi,hv,h.symm⟩
theorem Hf:∀ (fs:List Field) (w:World),(∀ f∈fs,(P.info? f.type).isSome=true)→(fs.mapM (fun f=>do pure (f.offset,←sizeOf f.type)):Sem (List (Nat×Nat))).run P w= .ok (fs.map fun f=>(f.offset,((P.info? f.type).map (·.size)).getD 0)) w
 |[],w,_=>rfl
 |f::fs,w,hall=>by
  obtain⟨j,hj⟩:=Option.isSome_iff_exists.1 (hall f (by simp))
  have ih:=Hf fs w (fun g hg=>hall g (by simp[hg]))
  simp only[List.mapM_cons,Sem.run_bind,run_sizeOf hj,Result.andThen_ok,Sem.run_pure,ih,List.map_cons,hj,Option.map_some,Option.getD_some]
theorem Tt {ρ:Operand→D} {ρv:Operand→Value} (hρ:∀ x,Rep w A β (ρ x) (ρv x)) {t:TypeId} {parts:Array (Nat×Operand)} {e:Eff} (h:IX P t (parts.toList.map fun p=>(p.1,ρ p.2))=some e):
  ∃ d u,e= .val d∧(Instr.build t (parts.map fun (i,x)=>(i,ρv x))).run P w= .ok u w∧Rep w A β d u:=by
 have hp:(parts.map fun (i,x)=>(i,ρv x)).toList=parts.toList.map fun p=>(p.1,ρv p.2):=by simp
 unfold IX at h
 split at h
 next zero fields hz hu=>
  obtain⟨i,z,hi,hzz,rfl⟩:=rQ hz
  split at h
  next hall=>
   simp only[Option.map_eq_some_iff] at h
   obtain⟨cs,hf,rfl⟩:=h
   obtain⟨vout,k1,k2⟩:=sH _ _ _ _ z.cells _ (uG hρ parts.toList) (aH.oV _) hf
   refine⟨_, .agg vout,rfl,?_,by simp only[Rep];exact⟨vout.toList,by simp,k2⟩⟩
   have hall':∀ f∈fields.toList,(P.info? f.type).isSome=true:=fun f hf=>List.all_eq_true.1 hall f hf
   simp only[Instr.build,Sem.run_bind,iP hi hzz,Result.andThen_ok,run_underlying hu,Array.mapM_eq_mapM_toList,Sem.run_map,Hf fields.toList w hall',hp]
   have hpl:(fun (x:Nat)=>((fields.toList.map fun f=>(f.offset,((P.info? f.type).map (·.size)).getD 0)).toArray)[x]?)=fun i=>(fields.toList.map fun f=>(f.offset,((P.info? f.type).map (·.size)).getD 0))[i]? :=by funext i;simp
   rw[hpl,k1]
   rfl
  next=>cases h
 next zero len elem hz hu=>
  obtain⟨i,z,hi,hzz,rfl⟩:=rQ hz
  split at h
  ·cases h
  next j hj=>
   simp only[Option.map_eq_some_iff] at h
   obtain⟨cs,hf,rfl⟩:=h
   obtain⟨vout,k1,k2⟩:=sH _ _ _ _ z.cells _ (uG hρ parts.toList) (aH.oV _) hf
   refine⟨_, .agg vout,rfl,?_,by simp only[Rep];exact⟨vout.toList,by simp,k2⟩⟩
   simp only[Instr.build,Sem.run_bind,iP hi hzz,Result.andThen_ok,run_underlying hu,run_sizeOf hj,hp,k1]
   rfl
 ·cases h
end
section
variable {P:Program} {w:World} {A:Nat→Prop} {β:Env} {base:Nat} {σ:St} {tmps:Array Value} {acts:List (Array Value)}
theorem Rz {s:Sem Value} {e:Eff} (h:uX P s=some e):∃ u,s.run P w= .ok u w∧e= .val (D.oV u):=by
 simp only[uX,Option.map_eq_some_iff] at h
 obtain⟨u,h1,rfl⟩:=h
 exact⟨u,qo P w s u h1,rfl⟩
theorem jo {x:D} {v:Value} (hr:Rep w A β x v) {i:Int} (h:indexOf x=some i):∃ k,v= .int k i:=by
 unfold indexOf at h
 split at h
 next k j=>simp at h;subst h;simp only[Rep,aG] at hr;exact⟨k,hr⟩
 ·cases h
theorem BJ {ad:Addr} (h:ad.spot=none):aO ad 0=ad:=by cases ad;simp at h;simp[aO,h]
theorem RX.up {cs:List ay} {x:Value} (h:RX w A cs x):XP w A (cs.map ay.up) x:=by
 obtain⟨o,cp,rfl,hv,h1,h2,h3⟩:=h
 refine⟨o,cp,by rw[fU],hv,by rw[fU];exact h1,by rw[fU];exact h2,fun i j c hi hc=>?_⟩
 rw[fU] at hi
 rw[List.getElem?_map,Option.map_eq_some_iff] at hc
 obtain⟨c0,hc0,rfl⟩:=hc
 refine⟨_,by rw[List.length_map];exact h3 i j c0 hi hc0,?_⟩
 cases c0<;>rfl
theorem acC {c:Col} {i:Nat} {x:Value} (h:KQ w A i x c):aG w A (c.cell i) x:=by
 cases c with
 |ints k xs=>simp only[Col.cell,aG];exact h
 |bools xs=>simp only[Col.cell,aG];exact h
 |rows n f=>simp only[Col.cell,aG];exact RX.up h
theorem cells_at {i:Nat}:∀ (cs:List Col) (ad:Addr),(∀ j c,cs[j]? =some c→∃ x,w.cell? (aO ad j)=some x∧KQ w A i x c)→ad.spot=none→bQ w A (cs.map (Col.cell i)) ad
 |[],ad,h,hs=>by simp[bQ]
 |c::cs,ad,h,hs=>by
  simp only[List.map_cons,bQ]
  refine⟨?_,cells_at cs (aO ad 1) (fun j k' hj=>?_) rfl⟩
  ·obtain⟨x,h1,h2⟩:=h 0 c rfl
   rw[BJ hs] at h1
   exact⟨x,h1,acC h2⟩
  ·obtain⟨x,h1,h2⟩:=h (j+1) k' (by simpa using hj)
   rw[fG,Nat.add_comm 1 j]
   exact⟨x,h1,h2⟩
theorem Pm {t:TypeId} {cs:List Col} {ix:D} {vx vi:Value} (hx:Rep w A β (.rc cs) vx) (hi:Rep w A β ix vi) {e:Eff} (h:Au P t cs ix=some e):
  ∃ d u,e= .val d∧(Instr.indexAt t vx vi).run P w= .ok u w∧Rep w A β d u:=by
 unfold Au at h
 split at h
 next elem i hu hix=>
  obtain⟨k,rfl⟩:=jo hi hix
  split at h
  ·cases h
  next j hj=>
   split at h
   next hb=>
    obtain⟨hsz,h0,h1⟩:=hb
    simp at h;subst h
    simp only[Rep,aG] at hx
    obtain⟨o,cp,rfl,_,hc,hx1,hx2⟩:=hx
    obtain⟨ad,rfl,h2,h3⟩:=hx1 (by omega)
    have hb':0≤i∧i<((rowLen cs:Nat):Int):=⟨h0,h1⟩
    refine⟨_, .pointer (some (aO ad (i.toNat*j.size))),rfl,?_,?_⟩
    ·simp[Instr.indexAt,asIntOf,run_underlying hu,Instr.sureAddr,hb',run_sizeOf hj,dM _ _ h2]
    ·simp only[Rep,aG]
     refine⟨aO ad (i.toNat*j.size),by simp,rfl,fun _=>h3,cells_at _ _ (fun m k' hk=>?_) rfl⟩
     rw[fG,hsz]
     exact hx2 i.toNat m k' (by omega) hk
   ·cases h
 ·cases h
theorem DV {t:TypeId} {x ix:D} {vx vi:Value} (hx:Rep w A β x vx) (hi:Rep w A β ix vi) {e:Eff} (h:lV P t x ix=some e):
  ∃ d u,e= .val d∧(Instr.indexAt t vx vi).run P w= .ok u w∧Rep w A β d u:=by
 unfold lV at h
 split at h
 next i len elem hix hu=>
  obtain⟨k,rfl⟩:=jo hi hix
  split at h
  ·cases h
  next j hj=>
   split at h
   next hb=>
    split at h
    next id off=>
     simp at h;subst h
     simp only[Rep] at hx
     obtain⟨ad,h1,rfl⟩:=hx
     refine⟨_, .pointer (some (aO ad (off+i.toNat*j.size))),rfl,?_,by simp only[Rep];exact⟨ad,h1,rfl⟩⟩
     simp[Instr.indexAt,asIntOf,run_underlying hu,Instr.sureAddr,hb,run_sizeOf hj,dM]
    next id i0 n0 j0=>
     simp at h;subst h
     simp only[Rep] at hx
     obtain⟨ad,h1,rfl⟩:=hx
     refine⟨_, .pointer (some (aO ad (i0*n0+j0+i.toNat*j.size))),rfl,?_,by simp only[Rep];exact⟨ad,h1,by rw[Nat.add_assoc]⟩⟩
     simp[Instr.indexAt,asIntOf,run_underlying hu,Instr.sureAddr,hb,run_sizeOf hj,dM]
    next cs off=>
     simp at h;subst h
     simp only[Rep,aG] at hx
     obtain⟨ad,rfl,h1,h2,h3⟩:=hx
     refine⟨_, .pointer (some (aO ad (off+i.toNat*j.size))),rfl,?_,by simp only[Rep,aG];exact⟨ad,rfl,h1,h2,h3⟩⟩
     simp[Instr.indexAt,asIntOf,run_underlying hu,Instr.sureAddr,hb,run_sizeOf hj,dM]
    ·cases h
   ·cases h
 next i elem hix hu=>
  obtain⟨k,rfl⟩:=jo hi hix
  split at h
  ·cases h
  next j hj=>
   split at h
   next id off n sz=>
    split at h
    next hb=>
     simp at h;subst h
     simp only[Rep] at hx
     obtain⟨o,c,rfl,hx⟩:=hx
     rcases hx with⟨h1,_⟩ | ⟨_,ad,h1,rfl,_⟩
     ·omega
     refine⟨_, .pointer (some (aO ad (off+i.toNat*j.size))),rfl,?_,by simp only[Rep];exact⟨ad,h1,by rw[Nat.add_comm]⟩⟩
     simp[Instr.indexAt,asIntOf,run_underlying hu,Instr.sureAddr,hb,run_sizeOf hj,dM]
    ·cases h
   next n cs=>
    split at h
    next hb=>
     simp at h;subst h
     simp only[Rep,aG] at hx
     obtain⟨o,c,rfl,hn,hx1,hx2⟩:=hx
     obtain⟨ad,rfl,h2,h3⟩:=hx1 (.inl (by omega))
     refine⟨_, .pointer (some (aO ad (i.toNat*j.size))),rfl,?_,by simp only[Rep,aG];exact⟨ad,rfl,h2,fun _=>h3,hx2⟩⟩
     simp[Instr.indexAt,asIntOf,run_underlying hu,Instr.sureAddr,hb,run_sizeOf hj,dM _ _ h2]
    ·cases h
   ·cases h
 ·cases h
theorem FO {t:TypeId} {x ix:D} {vx vi:Value} (hx:Rep w A β x vx) (hi:Rep w A β ix vi) {e:Eff} (h:kH P t x ix=some e):
  ∃ d u,e= .val d∧(Instr.indexAt t vx vi).run P w= .ok u w∧Rep w A β d u:=by
 unfold kH at h
 split at h
 ·exact Pm hx hi h
 ·exact DV hx hi h
theorem FU {t:TypeId} {x:D} {vx:Value} (hx:Rep w A β x vx) {f:Nat} {e:Eff} (h:oD P t x f=some e):
  ∃ d u,e= .val d∧(Instr.fieldAt t vx f).run P w= .ok u w∧Rep w A β d u:=by
 unfold oD at h
 split at h
 next fields hu=>
  split at h
  ·cases h
  next f' hf=>
   split at h
   ·cases h
   next j hj=>
    split at h
    ·cases h
    next hz=>
     split at h
     next id off=>
      simp at h;subst h
      simp only[Rep] at hx
      obtain⟨ad,h1,rfl⟩:=hx
      refine⟨_, .pointer (some (aO ad (off+f'.offset))),rfl,?_,by simp only[Rep];exact⟨ad,h1,rfl⟩⟩
      simp[Instr.fieldAt,run_underlying hu,hf,Instr.sureAddr,fieldPlace,run_sizeOf hj,hz,dM]
     next id i0 n0 j0=>
      simp at h;subst h
      simp only[Rep] at hx
      obtain⟨ad,h1,rfl⟩:=hx
      refine⟨_, .pointer (some (aO ad (i0*n0+j0+f'.offset))),rfl,?_,by simp only[Rep];exact⟨ad,h1,by rw[Nat.add_assoc]⟩⟩
      simp[Instr.fieldAt,run_underlying hu,hf,Instr.sureAddr,fieldPlace,run_sizeOf hj,hz,dM]
     next cs off=>
      simp at h;subst h
      simp only[Rep,aG] at hx
      obtain⟨ad,rfl,h1,h2,h3⟩:=hx
      refine⟨_, .pointer (some (aO ad (off+f'.offset))),rfl,?_,by simp only[Rep,aG];exact⟨ad,rfl,h1,h2,h3⟩⟩
      simp[Instr.fieldAt,run_underlying hu,hf,Instr.sureAddr,fieldPlace,run_sizeOf hj,hz,dM]
     ·cases h
 ·cases h
theorem TM {t:TypeId} {x:D} {vx:Value} (hx:Rep w A β x vx) {f:Nat} {e:Eff} (h:KH P t x f=some e):
  ∃ d u,e= .val d∧(Instr.field t vx f).run P w= .ok u w∧Rep w A β d u:=by
 unfold KH at h
 split at h
 next fields cs hu=>
  split at h
  ·cases h
  next f' hf=>
   simp only[Option.map_eq_some_iff] at h
   obtain⟨d,hd,rfl⟩:=h
   simp only[Rep] at hx
   obtain⟨vs,rfl,hx⟩:=hx
   obtain⟨u,k1,k2⟩:=qY hx hd
   exact⟨d,u,rfl,by simp[Instr.field,run_underlying hu,hf,asAgg,k1],k2⟩
 ·cases h
theorem Tz {t:TypeId} {x ix:D} {vx vi:Value} (hx:Rep w A β x vx) (hi:Rep w A β ix vi) {e:Eff} (h:zu P t x ix=some e):
  ∃ d u,e= .val d∧(Instr.index t vx vi).run P w= .ok u w∧Rep w A β d u:=by
 unfold zu at h
 split at h
 next i len elem cs hix hu=>
  obtain⟨k,rfl⟩:=jo hi hix
  split at h
  ·cases h
  next j hj=>
   split at h
   next hb=>
    simp only[Option.map_eq_some_iff] at h
    obtain⟨d,hd,rfl⟩:=h
    simp only[Rep] at hx
    obtain⟨vs,rfl,hx⟩:=hx
    obtain⟨u,k1,k2⟩:=qY hx hd
    exact⟨d,u,rfl,by simp[Instr.index,asIntOf,run_underlying hu,hb,run_sizeOf hj,k1],k2⟩
   ·cases h
 next i s hix hu=>
  obtain⟨k,rfl⟩:=jo hi hix
  split at h
  next hb=>
   split at h
   next b hs=>
    simp at h;subst h
    simp only[Rep,aG] at hx;subst hx
    exact⟨_, .int .u8 b.toNat,rfl,by simp[Instr.index,asIntOf,run_underlying hu,hb,hs],by simp[Rep,aG]⟩
   ·cases h
  ·cases h
 ·cases h
theorem KW {x:D} {vx:Value} (hx:Rep w A β x vx) {i:Nat} {e:Eff} (h:wF x i=some e):
  ∃ d u,e= .val d∧(Instr.extract vx i).run P w= .ok u w∧Rep w A β d u:=by
 unfold wF at h
 split at h
 next cs=>
  simp only[Option.map_eq_some_iff] at h
  obtain⟨d,hd,rfl⟩:=h
  simp only[Rep] at hx
  obtain⟨vs,rfl,hx⟩:=hx
  obtain⟨u,k1,k2⟩:=hx.get i d hd
  exact⟨d,u,rfl,by simp[Instr.extract,k1],k2⟩
 ·cases h
theorem Ul {o:Option D} {ov:Option Value} (hr:match o,ov with | none,none=>True | some d,some v=>Rep w A β d v | _,_=>False) {dflt most n:Nat} (h:dP o dflt most=some n) (code:BoundsCode):
  match ov with | some v=>(Instr.sliceBound v most code).run P w= .ok n w∧n≤most | none=>n=dflt:=by
 cases o with
 |none=>
  cases ov with
  |none=>simp[dP] at h;exact h.symm
  |some v=>exact hr.elim
 |some d=>
  cases ov with
  |none=>exact hr.elim
  |some v=>
   cases d with
   |v x=>
    cases x with
    |int k i=>
     simp only[dP] at h
     split at h
     next hb=>
      simp at h;subst h
      simp only[Rep,aG] at hr
      subst hr
      exact⟨by simp[Instr.sliceBound,asIntOf,hb],by omega⟩
     ·cases h
    |_=>simp[dP] at h
   |_=>simp[dP] at h
theorem F9 {ρ:Operand→D} {ρv:Operand→Value} (hρ:∀ x,Rep w A β (ρ x) (ρv x)) (o:Option Operand):
  match o.map ρ,o.map ρv with | none,none=>True | some d,some v=>Rep w A β d v | _,_=>False:=by
 cases o<;>simp[hρ]
theorem jR {lo hi:Option D} {vlo vhi:Option Value} (hlo:match lo,vlo with | none,none=>True | some d,some v=>Rep w A β d v | _,_=>False)
  (hhi:match hi,vhi with | none,none=>True | some d,some v=>Rep w A β d v | _,_=>False) {isSlice:Bool} {len cap h l most:Nat} (hm:len≤most) (hc:most≤cap) (h1:dP hi len most=some h) (h2:dP lo 0 h=some l):
  (Instr.sliceBounds isSlice len cap vlo vhi none).run P w= .ok (l,h,cap) w∧l≤h∧h≤most:=by
 have hh:h≤most:=by
  unfold dP at h1
  split at h1
  ·simp at h1;omega
  ·split at h1
   ·simp at h1;omega
   ·cases h1
  ·cases h1
 have hl:l≤h:=by
  unfold dP at h2
  split at h2
  ·simp at h2;omega
  ·split at h2
   ·simp at h2;omega
   ·cases h2
  ·cases h2
 refine⟨?_,hl,hh⟩
 have e1:=fun code=>Ul (P:=P) hlo h2 code
 have e2:∀ code,match vhi with | some v=>(Instr.sliceBound v cap code).run P w= .ok h w | none=>h=len:=by
  intro code
  cases hi with
  |none=>
   cases vhi with
   |none=>simp[dP] at h1;exact h1.symm
   |some v=>exact hhi.elim
  |some d=>
   cases vhi with
   |none=>exact hhi.elim
   |some v=>
    cases d with
    |v x=>
     cases x with
     |int k i=>
      simp only[dP] at h1
      split at h1
      next hb=>
       simp at h1;subst h1
       simp only[Rep,aG] at hhi
       subst hhi
       have hb':0≤i∧i≤cap:=by omega
       show(Instr.sliceBound _ _ _).run P w=_
       simp[Instr.sliceBound,asIntOf,hb']
      ·cases h1
     |_=>simp[dP] at h1
    |_=>simp[dP] at h1
 cases vlo with
 |none=>
  have e3:l=0:=e1 .index
  cases vhi with
  |none=>have e4:h=len:=e2 .index;simp[Instr.sliceBounds,e3,e4]
  |some v=>simp[Instr.sliceBounds,e3,e2]
 |some v'=>
  have e3:=fun code=>(e1 code).1
  cases vhi with
  |none=>have e4:h=len:=e2 .index;subst e4;simp[Instr.sliceBounds,e3]
  |some v=>simp[Instr.sliceBounds,e3,e2]
theorem qx {cs:List Col} {l h':Nat} (h1:l≤h') (h2:h'≤rowLen cs):rowLen (cs.map (Col.part l (h' - l)))=h' - l:=by
 cases cs with
 |nil=>simp[rowLen] at *;omega
 |cons c cs=>cases c<;>simp[rowLen,Col.part,Col.len] at* <;>omega
theorem afd {c:Col} {i l n:Nat} {x:Value} (hi:i<n) (h:KQ w A (i+l) x c):KQ w A i x (c.part l n):=by
 cases c with
 |ints k xs=>simp only[KQ,Col.part] at h ⊢;rw[h];simp[List.getD_eq_getElem?_getD,List.getElem?_take,hi,Nat.add_comm]
 |bools xs=>simp only[KQ,Col.part] at h ⊢;rw[h];simp[List.getD_eq_getElem?_getD,List.getElem?_take,hi,Nat.add_comm]
 |rows m f=>exact h
theorem Lh {t:TypeId} {cs:List Col} {vx:Value} (hx:Rep w A β (.rc cs) vx) {lo hi:Option D} {vlo vhi:Option Value}
  (hlo:match lo,vlo with | none,none=>True | some d,some v=>Rep w A β d v | _,_=>False) (hhi:match hi,vhi with | none,none=>True | some d,some v=>Rep w A β d v | _,_=>False)
  {e:Eff} (h:BQ P t cs lo hi=some e):∃ d u,e= .val d∧(Instr.sliceAt t vx vlo vhi none).run P w= .ok u w∧Rep w A β d u:=by
 unfold BQ at h
 split at h
 next elem hu=>
  split at h
  next j h' hj hb1=>
   split at h
   ·cases h
   next l hb2=>
    split at h
    next hsz=>
     simp at h;subst h
     simp only[Rep,aG] at hx
     obtain⟨o,c,rfl,hv,hnc,hx1,hx2⟩:=hx
     obtain⟨hrun,hl,hh⟩:=jR (P:=P) (isSlice:=true) hlo hhi (Nat.le_refl _) hnc hb1 hb2
     refine⟨_, .slice (if c=l then o else o.map (·.add (l*j.size))) (h' - l) (c - l),rfl,?_,?_⟩
     ·simp only[Instr.sliceAt,Instr.slice,Sem.run_bind,run_underlying hu,Result.andThen_ok,hrun,run_sizeOf hj,Sem.run_pure]
     ·simp only[Rep,aG]
      refine⟨_,_,by rw[qx hl hh],fun hL=>by have:=hv hL;split<;>simp_all,by rw[qx hl hh];omega,?_,?_⟩
      ·rw[qx hl hh]
       intro hne
       obtain⟨ad,rfl,h3,h4⟩:=hx1 (by omega)
       rw[if_neg (by omega)]
       exact⟨aO ad (l*j.size),by simp[dM _ _ h3],rfl,h4⟩
      ·rw[qx hl hh]
       intro i m k hi hk
       obtain⟨ad,rfl,h3,h4⟩:=hx1 (by omega)
       rw[if_neg (by omega)]
       simp only[Option.map_some,dM _ _ h3,Option.getD_some,fG,List.length_map]
       rw[List.getElem?_map,Option.map_eq_some_iff] at hk
       obtain⟨k0,hk0,rfl⟩:=hk
       obtain⟨x,hx3,hx4⟩:=hx2 (i+l) m k0 (by omega) hk0
       simp only[Option.getD_some] at hx3
       rw[hsz,←Nat.add_assoc,←Nat.add_mul,Nat.add_comm l i]
       exact⟨x,hx3,afd hi hx4⟩
    ·cases h
  ·cases h
 ·cases h
theorem Qi (hrel:Rel w A β base σ tmps acts) {t:TypeId} {x:D} {vx:Value} (hx:Rep w A β x vx) {lo hi:Option D} {vlo vhi:Option Value}
  (hlo:match lo,vlo with | none,none=>True | some d,some v=>Rep w A β d v | _,_=>False) (hhi:match hi,vhi with | none,none=>True | some d,some v=>Rep w A β d v | _,_=>False)
  {e:Eff} (h:lG P σ.bk t x lo hi=some e):∃ d u,e= .val d∧(Instr.sliceAt t vx vlo vhi none).run P w= .ok u w∧Rep w A β d u:=by
 unfold lG at h
 split at h
 next n elem id off hu=>
  split at h
  next j h' hj hb1=>
   split at h
   ·cases h
   next l hb2=>
    split at h
    next b hbk=>
     split at h
     next hlen=>
      simp at h;subst h
      simp only[Rep] at hx
      obtain⟨ad,h1,rfl⟩:=hx
      obtain⟨hrun,hl,hh⟩:=jR (P:=P) (isSlice:=false) hlo hhi (Nat.le_refl n) (Nat.le_refl n) hb1 hb2
      refine⟨_, .slice (some (if n=l then aO ad off else aO ad (off+l*j.size))) (h' - l) (n - l),rfl,?_,?_⟩
      ·simp only[Instr.sliceAt,Sem.run_bind,run_underlying hu,Result.andThen_ok,Instr.sureAddr,Sem.run_pure,hrun,run_sizeOf hj,Ff]
      ·simp only[Rep]
       refine⟨_,_,rfl,?_⟩
       by_cases e:n=l
       ·left;omega
       ·rw[if_neg e]
        refine .inr ⟨by omega,ad,h1,rfl,?_⟩
        rcases hrel.blk id b hbk with⟨h2,_⟩ | ⟨ad',h2,h3⟩
        ·rw[h1] at h2;cases h2
        ·rw[h1] at h2;cases h2
         obtain⟨c,T,hobj⟩:=h3.obj
         refine⟨c,T,(0,0),hobj,?_⟩
         have hle:l≤n:=by omega
         have hmul:l*j.size+(n - l)*j.size=n*j.size:=by rw[←Nat.add_mul];congr 1;omega
         rcases Nat.eq_zero_or_pos (n*j.size) with hz | hz
         ·have:=h3.inside c T hobj
          have:off≤b.cells.length:=by omega
          rcases Nat.eq_zero_or_pos b.cells.length with hz2 | hz2
          ·omega
          ·obtain⟨u,hu2,_⟩:=h3.cells.get h3.spot (b.cells.length - 1) _ (List.getElem?_eq_getElem (by omega))
           have hc:w.cell? (aO ad (b.cells.length - 1))=c[ad.off+(b.cells.length - 1)]? :=iO hobj
           rw[hc] at hu2
           have:=(Array.getElem?_eq_some_iff.1 hu2).1
           omega
         ·obtain⟨u,hu2,_⟩:=h3.cells.get h3.spot (b.cells.length - 1) _ (List.getElem?_eq_getElem (by omega))
          have hc:w.cell? (aO ad (b.cells.length - 1))=c[ad.off+(b.cells.length - 1)]? :=iO hobj
          rw[hc] at hu2
          have:=(Array.getElem?_eq_some_iff.1 hu2).1
          omega
     ·cases h
    ·cases h
  ·cases h
 next elem n cs hu=>
  split at h
  next j h' hj hb1=>
   split at h
   ·cases h
   next l hb2=>
    simp at h;subst h
    simp only[Rep,aG] at hx
    obtain⟨o,c,rfl,hnc,hx1,hx2⟩:=hx
    obtain⟨hrun,hl,hh⟩:=jR (P:=P) (isSlice:=true) hlo hhi (Nat.le_refl _) hnc hb1 hb2
    refine⟨_, .slice (if c=l then o else o.map (·.add (l*j.size))) (h' - l) (c - l),rfl,?_,?_⟩
    ·simp only[Instr.sliceAt,Instr.slice,Sem.run_bind,run_underlying hu,Result.andThen_ok,hrun,run_sizeOf hj,Sem.run_pure]
    ·simp only[Rep,aG]
     refine⟨_,_,rfl,by omega,?_,?_⟩
     ·intro hne
      have hn0:n≠0:=by
       intro hn
       subst hn
       have e1:h' - l=0:=by omega
       rw[e1] at hne
       simp at hne
      obtain⟨ad,rfl,h3,h4⟩:=hx1 (.inl hn0)
      by_cases e:c=l
      ·rw[if_pos e];exact⟨ad,rfl,h3,h4⟩
      ·rw[if_neg e];exact⟨aO ad (l*j.size),by simp[dM _ _ h3],rfl,h4⟩
     ·by_cases e:c=l
      ·have e1:h' - l=0:=by omega
       rw[e1];simp[bQ]
      ·rw[if_neg e]
       by_cases hz:n=0∧cs=[]
       ·rw[hz.2];simp[bQ]
       ·obtain⟨ad,rfl,h3,h4⟩:=hx1 (by by_cases hn:n=0<;>simp_all)
        simp only[Option.map_some,dM _ _ h3,Option.getD_some]
        exact bQ.take _ (bQ.drop h3 (l*j.size) hx2)
  ·cases h
 next elem id off n sz hu=>
  split at h
  next j h' hj hb1=>
   split at h
   ·cases h
   next l hb2=>
    split at h
    next hsz=>
     obtain⟨sz,r⟩:=sz
     simp only at hsz hb1 h
     subst hsz
     simp at h;subst h
     simp only[Rep] at hx
     obtain⟨o,c,rfl,hx⟩:=hx
     have hnc:max n r≤c:=by rcases hx with h | h<;>omega
     obtain⟨hrun,hl,hh⟩:=jR (P:=P) (isSlice:=true) hlo hhi (Nat.le_max_left n r) hnc hb1 hb2
     refine⟨_, .slice (if c=l then o else o.map (·.add (l*j.size))) (h' - l) (c - l),rfl,?_,?_⟩
     ·simp only[Instr.sliceAt,Instr.slice,Sem.run_bind,run_underlying hu,Result.andThen_ok,hrun,run_sizeOf hj,Sem.run_pure]
     ·simp only[Rep]
      refine⟨_,_,rfl,?_⟩
      by_cases e:c=l
      ·left;omega
      ·rcases hx with⟨h1,h2⟩ | ⟨h1,ad,h2,rfl,c1,T1,fz1,h3,h4⟩
       ·omega
       ·refine .inr ⟨by omega,ad,h2,by rw[if_neg e];simp,⟨c1,T1,fz1,h3,?_⟩⟩
        have hmul:l*j.size+(c - l)*j.size=c*j.size:=by rw[←Nat.add_mul];congr 1;omega
        omega
    ·cases h
  ·cases h
 next elem hu=>
  split at h
  next j h' hj hb1=>
   split at h
   ·cases h
   next l hb2=>
    simp at h;subst h
    simp only[Rep,aG] at hx;subst hx
    obtain⟨hrun,hl,hh⟩:=jR (P:=P) (isSlice:=true) hlo hhi (Nat.le_refl 0) (Nat.le_refl 0) hb1 hb2
    obtain rfl:h'=0:=by omega
    obtain rfl:l=0:=by omega
    refine⟨_, .slice none 0 0,rfl,?_,by simp[Rep,aG]⟩
    simp[Instr.sliceAt,Instr.slice,run_underlying hu,hrun,run_sizeOf hj]
  ·cases h
 next s hu=>
  split at h
  next h' hb1=>
   split at h
   ·cases h
   next l hb2=>
    simp at h;subst h
    simp only[Rep,aG] at hx;subst hx
    obtain⟨hrun,hl,hh⟩:=jR (P:=P) (isSlice:=false) hlo hhi (Nat.le_refl s.size) (Nat.le_refl s.size) hb1 hb2
    refine⟨_, .string (s.extract l h'),rfl,?_,by simp[Rep,aG]⟩
    simp[Instr.sliceAt,Instr.slice,run_underlying hu,hrun]
  ·cases h
 ·cases h
theorem Ri (hrel:Rel w A β base σ tmps acts) {t:TypeId} {x:D} {vx:Value} (hx:Rep w A β x vx) {lo hi:Option D} {vlo vhi:Option Value}
  (hlo:match lo,vlo with | none,none=>True | some d,some v=>Rep w A β d v | _,_=>False) (hhi:match hi,vhi with | none,none=>True | some d,some v=>Rep w A β d v | _,_=>False)
  {e:Eff} (h:xM P σ.bk t x lo hi=some e):∃ d u,e= .val d∧(Instr.sliceAt t vx vlo vhi none).run P w= .ok u w∧Rep w A β d u:=by
 unfold xM at h
 split at h
 ·exact Lh hx hlo hhi h
 ·exact Qi hrel hx hlo hhi h
theorem uq {d:D} {v:Value} (h:BI d=true) (hr:Rep w A β d v):∃ k,v= .int k 0:=by
 unfold BI at h
 split at h
 next k=>simp only[Rep,aG] at hr;exact⟨k,hr⟩
 ·cases h
theorem OO {t:TypeId} {x:D} {vx:Value} (hx:Rep w A β x vx) {lo hi:Option D} {vlo vhi:Option Value} {mx:D} {vmx:Value}
  (hlo:match lo,vlo with | none,none=>True | some d,some v=>Rep w A β d v | _,_=>False) (hhi:match hi,vhi with | none,none=>True | some d,some v=>Rep w A β d v | _,_=>False) (hmx:Rep w A β mx vmx)
  {e:Eff} (h:yQ P t x lo hi mx=some e):∃ d u,e= .val d∧(Instr.sliceAt t vx vlo vhi (some vmx)).run P w= .ok u w∧Rep w A β d u:=by
 unfold yQ at h
 split at h
 next elem h' hu=>
  split at h
  ·cases h
  next j hj=>
   split at h
   next hz=>
    obtain⟨z1,z2,z3⟩:=hz
    obtain⟨k1,rfl⟩:=uq z1 hmx
    cases vhi with
    |none=>exact hhi.elim
    |some vh=>
     obtain⟨k2,rfl⟩:=uq z2 hhi
     have key:∀ (o:Option Addr) (n c:Nat),(Instr.sliceAt t (.slice o n c) vlo (some (.int k2 0)) (some (.int k1 0))).run P w= .ok (.slice o 0 0) w:=by
      intro o n c
      cases lo with
      |none=>
       cases vlo with
       |none=>simp[Instr.sliceAt,Instr.slice,run_underlying hu,Instr.sliceBounds,Instr.sliceBound,asIntOf,run_sizeOf hj]
       |some v=>exact hlo.elim
      |some d=>
       cases vlo with
       |none=>exact hlo.elim
       |some v=>
        obtain⟨k3,rfl⟩:=uq (by simpa using z3) hlo
        simp[Instr.sliceAt,Instr.slice,run_underlying hu,Instr.sliceBounds,Instr.sliceBound,asIntOf,run_sizeOf hj]
     split at h
     ·split at h
      ·cases h
      next hn=>
       simp only[Option.some.injEq] at h;subst h
       simp only[Rep,aG] at hx
       obtain⟨o,c,rfl,_,hx1,_⟩:=hx
       obtain⟨ad,rfl,_⟩:=hx1 (.inl hn)
       exact⟨_,_,rfl,key _ _ _,by simp only[Rep,aG];exact⟨ad,rfl⟩⟩
     ·split at h
      ·cases h
      next hn=>
       simp only[Option.some.injEq] at h;subst h
       simp only[Rep] at hx
       obtain⟨o,c,rfl,hx⟩:=hx
       rcases hx with⟨h1,_⟩ | ⟨_,ad,_,rfl,_⟩
       ·exact absurd h1 hn
       ·exact⟨_,_,rfl,key _ _ _,by simp only[Rep,aG];exact⟨_,rfl⟩⟩
     ·simp only[Option.some.injEq] at h;subst h
      simp only[Rep,aG] at hx
      obtain⟨o,rfl⟩:=hx
      exact⟨_,_,rfl,key _ _ _,by simp only[Rep,aG];exact⟨o,rfl⟩⟩
     ·simp only[Option.some.injEq] at h;subst h
      simp only[Rep,aG] at hx;subst hx
      exact⟨_,_,rfl,key _ _ _,by simp[Rep,aG]⟩
     ·cases h
   ·unfold J6 at h
    split at h
    next id off n sz k1 l k2 hh k3 m hneg=>
     split at h
     next hb=>
      simp only[Option.some.injEq] at h;subst h
      simp only[Rep] at hx
      obtain⟨o,c,rfl,hx⟩:=hx
      have hnc:n≤c:=by rcases hx with h | h<;>omega
      cases vhi with
      |none=>exact hhi.elim
      |some vh=>
       cases vlo with
       |none=>exact hlo.elim
       |some vl=>
        simp only[Rep,aG] at hhi hlo hmx
        subst hhi;subst hlo;subst hmx
        obtain⟨m',rfl⟩:=Int.eq_ofNat_of_zero_le (show 0≤m by omega)
        obtain⟨h2,rfl⟩:=Int.eq_ofNat_of_zero_le (show 0≤hh by omega)
        obtain⟨l',rfl⟩:=Int.eq_ofNat_of_zero_le (show 0≤l by omega)
        have b1:m'≤c:=by omega
        have b2:h2≤m':=by omega
        have b3:l'≤h2:=by omega
        refine⟨.undef, .slice (if m'=l' then o else o.map (·.add (l'*j.size))) (h2 - l') (m' - l'),rfl,?_,by simp[Rep,aG]⟩
        simp[Instr.sliceAt,Instr.slice,run_underlying hu,Instr.sliceBounds,Instr.sliceBound,asIntOf,run_sizeOf hj,b1,b2,b3]
     ·cases h
    ·cases h
 ·cases h
end
section
variable {P:Program} {w:World} {A:Nat→Prop} {β:Env} {base:Nat} {σ:St} {tmps:Array Value} {acts:List (Array Value)}
theorem wP (z:Array Value) (n:Nat):((Array.range (n*z.size)).map fun i=>z[i%z.size]!)=(List.replicate n z.toList).flatten.toArray:=by
 induction n with
 |zero=>simp
 |succ n ih=>
  apply Array.ext'
  have h1:=congrArg Array.toList ih
  simp only[Array.toList_map,Array.toList_range] at h1 ⊢
  rw[Nat.succ_mul,List.range_add,List.map_append,h1,List.replicate_succ',List.flatten_append]
  simp only[List.map_map]
  congr 1
  simp only[List.flatten_cons,List.flatten_nil,List.append_nil]
  apply List.ext_getElem?
  intro i
  rcases Nat.lt_or_ge i z.size with h | h
  ·simp[h,Nat.mod_eq_of_lt h]
  ·simp[h]
theorem NJ (z:Array Value) (n:Nat):aH w A β (List.replicate n (z.toList.map D.v)).flatten (List.replicate n z.toList).flatten:=by
 induction n with
 |zero=>simp[aH]
 |succ n ih=>simp only[List.replicate_succ,List.flatten_cons];exact(aH.oV _).append ih
theorem FQ {t:TypeId} {l c:D} {vl vc:Value} (hl:Rep w A β l vl) (hc:Rep w A β c vc) {e:Eff} (h:lN P t l c=some e):
  Good P w A β (((Instr.makeSlice t vl vc).run P w).andThen fun v w'=> .ok (.value v) w') e:=by
 unfold lN at h
 split at h
 next elem li ci hu h1 h2=>
  obtain⟨k1,rfl⟩:=jo hl h1
  obtain⟨k2,rfl⟩:=jo hc h2
  split at h
  next j zs hj hz=>
   obtain⟨j',z,hj',hzz,rfl⟩:=rQ hz
   rw[hj] at hj';cases hj'
   split at h
   next hb=>
    simp at h;subst h
    obtain⟨b1,b2,b3,b4,b5⟩:=hb
    have b5':z.cells.size=j.size:=by simpa using b5
    have e1:IntKind.i64.wrap li=li:=IntWalk.i64_in li (by omega)
    have e2:IntKind.i64.wrap ci=ci:=IntWalk.i64_in ci (by omega)
    have b3':j.bytes*ci≤2 ^ 40:=by rw[Int.mul_comm];exact b3
    refine⟨elem,(List.replicate ci.toNat z.cells.toList).flatten,ci.toNat,NJ _ _,by omega,?_,?_⟩
    ·simp[b5']
    ·have hn1':¬ ((281474976710656:Int)<j.bytes*ci):=by omega
     have hn2:¬ ci<0:=by omega
     have hn3:¬ li<0:=by omega
     have hn4:¬ ci<li:=by omega
     simp only[Instr.makeSlice,Sem.run_bind,run_underlying hu,Result.andThen_ok,asInt,asIntOf,Sem.run_pure,run_typeInfo hj,e1,e2]
     simp[hn1',hn2,hn3,hn4,run_sizeOf hj,newRow]
     have hm:=wP z.cells ci.toNat
     rw[b5'] at hm
     by_cases h0:ci.toNat*j.size=0
     ·rw[if_pos h0]
      rw[h0] at hm ⊢
      rw[←hm]
      simp[show Array.range 0=#[] from rfl]
     ·rw[if_neg h0]
      simp[iP hj hzz,b5',hm]
   ·cases h
  ·cases h
 ·cases h
theorem AO (place:Nat→Option (Nat×Nat)):∀ (parts:List (Nat×D)) (cells out:List D),y5 place cells parts=some out→out.length=cells.length
 |[],cells,out,h=>by simp[y5] at h;rw[h]
 |(i,x)::rest,cells,out,h=>by
  simp only[y5] at h
  split at h
  next off size ds hp hc=>
   split at h
   next hl=>
    rw[AO place rest _ _ h]
    simp[splice];omega
   ·cases h
  ·cases h
theorem Ef {ρ:Operand→D} {ρv:Operand→Value} (hρ:∀ x,Rep w A β (ρ x) (ρv x)) {t:TypeId} {len:Nat} {parts:Array (Nat×Operand)} {e:Eff} (h:pX P t len (parts.toList.map fun p=>(p.1,ρ p.2))=some e):
  Good P w A β (((Instr.buildSlice t len (parts.map fun (i,x)=>(i,ρv x))).run P w).andThen fun v w'=> .ok (.value v) w') e:=by
 have hp:(parts.map fun (i,x)=>(i,ρv x)).toList=parts.toList.map fun p=>(p.1,ρv p.2):=by simp
 unfold pX at h
 split at h
 next elem hu=>
  split at h
  next j zs hj hz=>
   obtain⟨j',z,hj',hzz,rfl⟩:=rQ hz
   rw[hj] at hj';cases hj'
   split at h
   next hb=>
    simp only[Option.map_eq_some_iff] at h
    obtain⟨cs,hf,rfl⟩:=h
    have b5:z.cells.size=j.size:=by simpa using hb.2
    have hm:=wP z.cells len
    rw[b5] at hm
    obtain⟨vout,k1,k2⟩:=sH _ _ _ _ (List.replicate len z.cells.toList).flatten.toArray _ (uG hρ parts.toList) (NJ _ _) hf
    have hlen:=k2.length
    have hcs:cs.length=len*j.size:=by
     have:=AO _ _ _ _ hf
     rw[this];simp[b5]
    suffices hrun:(((Instr.buildSlice t len (parts.map fun (i,x)=>(i,ρv x))).run P w).andThen fun v w'=>Result.ok (Next.value v) w')= .ok (.value (.slice (some ⟨w.heap.size,0,none⟩) len len)) (w.alloc (.cells vout.toList.toArray elem)) by
     cases len with
     |zero=>exact⟨elem,vout.toList.toArray,hrun⟩
     |succ n=>exact⟨elem,vout.toList,n+1,k2,Nat.le_refl _,by rw[hlen,hcs];exact Nat.le_refl _,hrun⟩
    have hn:¬ (len*j.size > 2 ^ 24):=by omega
    simp only[Instr.buildSlice,Sem.run_bind,run_underlying hu,Result.andThen_ok,run_sizeOf hj,hn,if_false]
    by_cases h0:len*j.size=0
    ·have hm0:((Array.range (len*j.size)).map fun i=>(#[]:Array Value)[i%(#[]:Array Value).size]!)=(List.replicate len z.cells.toList).flatten.toArray:=by
      rw[←hm,h0];simp[show Array.range 0=#[] from rfl]
     simp only[if_pos h0,Sem.run_bind,Sem.run_pure,Result.andThen_ok,hm0,hp,k1]
     rfl
    ·simp only[if_neg h0,Sem.run_bind,Sem.run_pure,Result.andThen_ok,iP hj hzz,b5,hm,hp,k1]
     rfl
   ·cases h
  ·cases h
 ·cases h
theorem aaU {t:TypeId} {x:D} {vx:Value} (hx:Rep w A β x vx) {ty:TypeId} {e:Eff} (h:lenD P t x=some e):∃ d u,e= .val d∧(Builtin.len_ #[t] ty #[vx]).run P w= .ok u w∧Rep w A β d u:=by
 unfold lenD at h
 split at h
 next el hu=>
  split at h
  ·simp at h;subst h
   simp only[Rep,aG] at hx
   obtain⟨o,c,rfl,_⟩:=hx
   exact⟨_,_,rfl,by simp[Builtin.len_,run_underlying hu];rfl,by simp[Rep,aG]⟩
  ·simp at h;subst h
   simp only[Rep] at hx
   obtain⟨o,c,rfl,_⟩:=hx
   exact⟨_,_,rfl,by simp[Builtin.len_,run_underlying hu];rfl,by simp[Rep,aG]⟩
  ·simp at h;subst h
   simp only[Rep,aG] at hx;subst hx
   exact⟨_,_,rfl,by simp[Builtin.len_,run_underlying hu];rfl,by simp[Rep,aG]⟩
  ·simp at h;subst h
   simp only[Rep,aG] at hx
   obtain⟨o,rfl⟩:=hx
   exact⟨_,_,rfl,by simp[Builtin.len_,run_underlying hu];rfl,by simp[Rep,aG,goInt]⟩
  ·simp at h;subst h
   simp only[Rep,aG] at hx
   obtain⟨o,c,rfl,_⟩:=hx
   exact⟨_,_,rfl,by simp[Builtin.len_,run_underlying hu];rfl,by simp[Rep,aG]⟩
  ·cases h
 next hu=>
  split at h
  ·simp at h;subst h
   simp only[Rep,aG] at hx;subst hx
   exact⟨_,_,rfl,by simp[Builtin.len_,run_underlying hu];rfl,by simp[Rep,aG]⟩
  ·cases h
 next n el hu=>
  simp at h;subst h
  exact⟨_,_,rfl,by simp[Builtin.len_,run_underlying hu];rfl,by simp[Rep,aG]⟩
 ·cases h
theorem zG {ad:Addr} {cs:List D} (hs:ad.spot=none) (hc:bI w A β cs ad):∃ vs:List Value,(∀ w':World,w'.heap=w.heap→(loadCells ad cs.length).run P w'= .ok vs.toArray w')∧aH w A β cs vs:=by
 obtain⟨vs,k1,k2⟩:=qU P hs hc
 refine⟨vs,fun w' hw'=>?_,k2⟩
 have hx':Ext A w w':= .of_heap hw'
 obtain⟨vs',k3,k4⟩:=qU P hs (bI.mono (β':=β) hx' (fun _ h=>h) _ _ (by rw[hw']) (fun _ _=>rfl) hc)
 have hsame:∀ (n i:Nat) (acc:Array Value) (r:Array Value),(loadCellsFrom ad i n acc).run P w= .ok r w→(∀ j,j<n→(w.cell? (aO ad (i+j))).isSome=true)→(loadCellsFrom ad i n acc).run P w'= .ok r w':=by
  intro n
  induction n with
  |zero=>intro i acc r h _;simp[loadCellsFrom] at h ⊢;exact h
  |succ n ih=>
   intro i acc r h hj
   obtain⟨u,hu⟩:=Option.isSome_iff_exists.1 (hj 0 (by omega))
   have hu':w'.cell? (aO ad (i+0))=some u:=by rw[←hu];exact kW (by rw[hw'])
   simp only[Nat.add_zero] at hu hu'
   simp only[loadCellsFrom,Sem.run_bind,run_load,dM _ _ hs,hu,hu',Result.andThen_ok] at h ⊢
   exact ih (i+1) _ r h (fun j hlt=>by rw[show i+1+j=i+(j+1) from by omega];exact hj (j+1) (by omega))
 exact hsame _ 0 #[] _ k1 (fun j hj=>by
  obtain⟨u,hu,_⟩:=hc.get hs j _ (List.getElem?_eq_getElem hj)
  rw[Nat.zero_add,hu];rfl)
theorem NH:∀ (xs ys:List D) (ad:Addr),ad.spot=none→bQ w A xs ad→bQ w A ys (aO ad xs.length)→bQ w A (xs ++ ys) ad
 |[],ys,ad,hs,_,h=>by rw[List.length_nil,BJ hs] at h;exact h
 |x::xs,ys,ad,hs,h1,h2=>by
  simp only[List.cons_append,bQ] at h1 ⊢
  refine⟨h1.1,NH xs ys (aO ad 1) rfl h1.2 ?_⟩
  rw[fG,Nat.add_comm 1,←List.length_cons (a:=x)]
  exact h2
theorem uZ (cs:List Col):(jh cs).length=rowLen cs*cs.length:=by
 unfold jh
 rw[List.length_flatMap]
 simp[List.map_const']
theorem XP.sh {cs:List Col} {u:Value} (h:XP w A cs u):aG w A (.sh (rowLen cs) (jh cs)) u:=by
 obtain⟨o,cp,rfl,_,h1,h2,h3⟩:=h
 simp only[aG]
 have hz:rowLen cs=0→jh cs=[]:=fun e=>by simp[jh,e]
 refine⟨o,cp,rfl,h1,fun h=>h2 (fun e=>by rcases h with h | h;exact h e;exact h (hz e)),?_⟩
 by_cases hn:rowLen cs=0
 ·rw[hz hn];simp[bQ]
 ·obtain⟨ad,rfl,h4,h5⟩:=h2 hn
  simp only[Option.getD_some] at h3 ⊢
  have key:∀ n,n≤rowLen cs→bQ w A ((List.range n).flatMap fun i=>cs.map (Col.cell i)) ad:=by
   intro n
   induction n with
   |zero=>intro _;simp[bQ]
   |succ n ih=>
    intro hle
    rw[List.range_succ,List.flatMap_append]
    refine NH _ _ _ h4 (ih (by omega)) ?_
    have hl:((List.range n).flatMap fun i=>cs.map (Col.cell i)).length=n*cs.length:=by rw[List.length_flatMap];simp[List.map_const']
    rw[hl]
    simp only[List.flatMap_cons,List.flatMap_nil,List.append_nil]
    exact cells_at cs _ (fun j c hj=>by rw[fG];exact h3 n j c (by omega) hj) rfl
  exact key _ (Nat.le_refl _)
theorem ab5 {size n:Nat} {cs:List D} {vx:Value} (hx:aG w A (.sh n cs) vx) (hl:n*size=cs.length):∃ vs,Src P w size n vx vs∧aH w A β cs vs∧cs.length=n*size:=by
 simp only[aG] at hx
 obtain⟨o,c,rfl,hnc,h1,h2⟩:=hx
 by_cases hz:n*size=0
 ·have hnil:cs=[]:=List.length_eq_zero_iff.1 (by omega)
  subst hnil
  refine⟨[],⟨by simp[Builtin.lenOf],fun w' _=>?_⟩,by simp[aH],by simp[hz]⟩
  cases o<;>simp[Builtin.firstCells,hz,loadCells,loadCellsFrom]
 ·obtain⟨ad,rfl,h3,h4⟩:=h1 (.inl (by intro h;subst h;simp at hz))
  obtain⟨vs,k1,k2⟩:=zG (P:=P) h3 (bQ.xQ (fun d u h=>aG.rep (β:=β) d u h) h2)
  refine⟨vs,⟨by simp[Builtin.lenOf],fun w' hw'=>?_⟩,k2,hl.symm⟩
  rw[←hl] at k1
  simp[Builtin.firstCells,k1 w' hw']
theorem ER (hrel:Rel w A β base σ tmps acts) {size:Nat} {x:D} {vx:Value} (hx:Rep w A β x vx) {m:Nat} {ds:List D} (h:x.elems σ.bk size=some (m,ds)):
  ∃ vs,Src P w size m vx vs∧aH w A β ds vs∧ds.length=m*size:=by
 have hload:∀ (ad:Addr) (cs:List D),ad.spot=none→bI w A β cs ad→∃ vs:List Value,(∀ w':World,w'.heap=w.heap→(loadCells ad cs.length).run P w'= .ok vs.toArray w')∧aH w A β cs vs:=fun ad cs hs hc=>zG hs hc
 cases x with
 |sh n cs=>
  simp only[D.elems] at h
  split at h
  next hl=>
   simp at h;obtain⟨rfl,rfl⟩:=h
   simp only[Rep,aG] at hx
   obtain⟨o,c,rfl,hnc,h1,h2⟩:=hx
   by_cases hz:n*size=0
   ·have hnil:cs=[]:=List.length_eq_zero_iff.1 (by omega)
    subst hnil
    refine⟨[],⟨by simp[Builtin.lenOf],fun w' _=>?_⟩,by simp[aH],by simp[hz]⟩
    cases o<;>simp[Builtin.firstCells,hz,loadCells,loadCellsFrom]
   ·obtain⟨ad,rfl,h3,h4⟩:=h1 (.inl (by intro h;subst h;simp at hz))
    obtain⟨vs,k1,k2⟩:=hload ad cs h3 (bQ.xQ (fun d u h=>aG.rep d u h) h2)
    refine⟨vs,⟨by simp[Builtin.lenOf],fun w' hw'=>?_⟩,k2,hl.symm⟩
    rw[←hl] at k1
    simp[Builtin.firstCells,k1 w' hw']
  ·cases h
 |sl id off n sz=>
  simp only[D.elems] at h
  split at h
  next b hb=>
   split at h
   next hl=>
    simp at h;obtain⟨rfl,rfl⟩:=h
    obtain⟨sz,r⟩:=sz
    simp only at hl
    obtain⟨rfl,hl⟩:=hl
    have hlen:((b.cells.drop off).take (n*sz)).length=n*sz:=by simp;omega
    simp only[Rep] at hx
    obtain⟨o,c,rfl,hx⟩:=hx
    by_cases hz:n*sz=0
    ·refine⟨[],⟨by simp[Builtin.lenOf],fun w' _=>?_⟩,by rw[hz];simp[aH],hlen⟩
     cases o<;>simp[Builtin.firstCells,hz,loadCells,loadCellsFrom]
    ·rcases hx with⟨h1,_⟩ | ⟨_,ad,h1,rfl,_⟩
     ·obtain rfl:n=0:=by omega
      simp at hz
     ·rcases hrel.blk id b hb with⟨h2,_⟩ | ⟨ad',h2,h3⟩
      ·rw[h1] at h2;cases h2
      ·rw[h1] at h2;cases h2
       obtain⟨vs,k1,k2⟩:=hload (aO ad off) _ rfl ((h3.cells.drop h3.spot off).take rfl (n*sz))
       refine⟨vs,⟨by simp[Builtin.lenOf],fun w' hw'=>?_⟩,k2,hlen⟩
       rw[hlen] at k1
       simp[Builtin.firstCells,k1 w' hw']
   ·cases h
  ·cases h
 |v y=>
  have hy:y= .slice none 0 0∧m=0∧ds=[]:=by
   cases y with
   |slice o n c=>
    cases o with
    |none=>
     cases n with
     |zero=>
      cases c with
      |zero=>simp[D.elems] at h;exact⟨rfl,h.1.symm,h.2⟩
      |succ c=>simp[D.elems] at h
     |succ n=>simp[D.elems] at h
    |some a=>simp[D.elems] at h
   |_=>simp[D.elems] at h
  obtain⟨rfl,rfl,rfl⟩:=hy
  simp only[Rep,aG] at hx;subst hx
  exact⟨[],⟨by simp[Builtin.lenOf],fun w' _=>by simp[Builtin.firstCells]⟩,by simp[aH],by simp⟩
 |rc cs=>
  simp only[D.elems] at h
  split at h
  next hl=>
   simp at h;obtain⟨rfl,rfl⟩:=h
   simp only[Rep,aG] at hx
   exact ab5 hx.sh (by rw[uZ,hl])
  ·cases h
 |emp=>
  simp only[D.elems,Option.some.injEq,Prod.mk.injEq] at h
  obtain⟨rfl,rfl⟩:=h
  simp only[Rep,aG] at hx
  obtain⟨o,rfl⟩:=hx
  refine⟨[],⟨by simp[Builtin.lenOf],fun w' _=>?_⟩,by simp[aH],by simp⟩
  cases o<;>simp[Builtin.firstCells,loadCells,loadCellsFrom]
 |_=>simp[D.elems] at h
end
section
variable {P:Program} {w:World} {A:Nat→Prop} {β:Env} {base:Nat} {σ:St} {tmps:Array Value} {acts:List (Array Value)}
theorem jM {s:Sem Value} {e:Eff} (h:∃ d u,e= .val d∧s.run P w= .ok u w∧Rep w A β d u):Good P w A β ((s.run P w).andThen fun v w'=> .ok (.value v) w') e:=by
 obtain⟨d,u,rfl,h1,h2⟩:=h
 exact⟨u,by rw[h1];rfl,h2⟩
theorem pW {s:Sem Value} {e:Eff} (h:Good P w A β ((s.run P w).andThen fun v w'=> .ok (.value v) w') e):Good P w A β ((s >>= fun v=>(pure (Next.value v):Sem Next)).run P w) e:=by
 rw[Sem.run_bind];exact h
theorem rO {s:Sem Value} {e:Eff} (h:uX P s=some e):Good P w A β ((s.run P w).andThen fun v w'=> .ok (.value v) w') e:=by
 obtain⟨u,h1,rfl⟩:=Rz (w:=w) h
 exact⟨u,by rw[h1];rfl,Rep.oV u⟩
theorem qg {ρ:Operand→D} {ρv:Operand→Value} (hρ:∀ x,Rep w A β (ρ x) (ρv x)):∀ (xs:List Operand) (vs:List Value),D.wR (xs.map ρ)=some vs→xs.map ρv=vs
 |[],vs,h=>by simp[D.wR] at h;simp[h]
 |x::xs,vs,h=>by
  simp only[D.wR,List.map_cons,List.mapM_cons,Option.bind_eq_bind,Option.bind_eq_some_iff,Option.pure_def,Option.some.injEq] at h
  obtain⟨u,h1,us,h2,rfl⟩:=h
  simp only[List.map_cons,qg hρ xs us h2,(hρ x).plain h1]
theorem oL {ρ:Operand→D} {ρv:Operand→Value} (hρ:∀ x,Rep w A β (ρ x) (ρv x)):∀ (xs:List Operand),aH w A β (xs.map ρ) (xs.map ρv)
 |[]=>by simp[aH]
 |x::xs=>by simp only[List.map_cons,aH];exact⟨_,_,rfl,hρ x,oL hρ xs⟩
theorem Xx (hrel:Rel w A β base σ tmps acts) {ts:Array TypeId} {ty:TypeId} {d x:D} {vd vx:Value} (hd:Rep w A β d vd) (hx:Rep w A β x vx) {e:Eff} (h:YC P σ.bk ts d x=some e):
  Good P w A β (((Builtin.copy_ ts ty #[vd,vx]).run P w).andThen fun v w'=> .ok (.value v) w') e:=by
 unfold YC at h
 split at h
 next t t2=>
  split at h
  next el hu=>
   split at h
   next j hj=>
    split at h
    next id off n sz m ds hel=>
     split at h
     next hc=>
      simp at h;subst h
      obtain⟨sz,r⟩:=sz
      simp only at hc
      obtain⟨rfl,hn0,hone⟩:=hc
      obtain⟨vs,hsrc,hds,hdl⟩:=ER (P:=P) hrel hx hel
      simp only[Rep] at hd
      obtain⟨o,c,rfl,hd⟩:=hd
      rcases hd with⟨h1,_⟩ | ⟨_,ad,h1,rfl,_⟩
      ·exact absurd (by omega) hn0
      have hvl:=hds.length
      have hfirst:(Builtin.firstCells j.size (Nat.min m n) vx).run P w= .ok (vs.take (Nat.min m n*j.size)).toArray w:=by
       have hall:=hsrc.cells w rfl
       cases vx with
       |slice oa l cap=>
        have hl:l=m:=by have:=hsrc.len;simp[Builtin.lenOf] at this;exact this
        subst hl
        cases oa with
        |none=>
         simp[Builtin.firstCells] at hall ⊢
         have:vs=[]:=by simpa using hall.symm
         simp[this]
        |some a=>
         simp only[Builtin.firstCells] at hall ⊢
         have key:∀ (k2 n0 i:Nat) (acc r:Array Value),(loadCellsFrom a i (n0+k2) acc).run P w= .ok r w→r.size=acc.size+(n0+k2)∧(loadCellsFrom a i n0 acc).run P w= .ok (r.extract 0 (acc.size+n0)) w:=by
          intro k2 n0
          induction n0 with
          |zero=>
           intro i acc r hr
           have hpre:∀ (k i:Nat) (acc r:Array Value),(loadCellsFrom a i k acc).run P w= .ok r w→r.size=acc.size+k∧r.extract 0 acc.size=acc:=by
            intro k
            induction k with
            |zero=>intro i acc r h;simp[loadCellsFrom] at h;subst h;simp
            |succ k ih=>
             intro i acc r h
             simp only[loadCellsFrom,Sem.run_bind] at h
             obtain⟨u,w1,h2,h3⟩:=Result.wZ h
             have hw1:w1=w:=by
              simp only[run_load] at h2
              split at h2
              ·simp at h2;exact h2.2.symm
              ·split at h2
               ·simp at h2;exact h2.2.symm
               ·cases h2
             subst hw1
             obtain⟨h4,h5⟩:=ih (i+1) _ r h3
             simp at h4
             refine⟨by omega,?_⟩
             have:=congrArg (fun x=>x.extract 0 acc.size) h5
             simpa [Array.extract_extract] using this
           obtain⟨h4,h5⟩:=hpre _ i acc r (by simpa using hr)
           exact⟨by omega,by simp[loadCellsFrom,h5]⟩
          |succ n0 ih=>
           intro i acc r hr
           rw[show n0+1+k2=(n0+k2)+1 from by omega] at hr
           simp only[loadCellsFrom,Sem.run_bind] at hr ⊢
           obtain⟨u,w1,h2,h3⟩:=Result.wZ hr
           have hw1:w1=w:=by
            simp only[run_load] at h2
            split at h2
            ·simp at h2;exact h2.2.symm
            ·split at h2
             ·simp at h2;exact h2.2.symm
             ·cases h2
           subst hw1
           obtain⟨h4,h5⟩:=ih (i+1) _ r h3
           simp at h4 h5
           rw[h2]
           refine⟨by omega,?_⟩
           simp only[Result.andThen_ok,h5]
           congr 2;omega
         have hle:Nat.min l n*j.size≤l*j.size:=Nat.mul_le_mul_right _ (Nat.min_le_left _ _)
         have h6:=(key (l*j.size - Nat.min l n*j.size) (Nat.min l n*j.size) 0 #[] vs.toArray (by rw[Nat.add_sub_cancel' hle];exact hall)).2
         simp only[loadCells]
         rw[h6]
         congr 1
         simp
       |string s=>
        exfalso
        cases x with
        |sh _ _=>simp only[Rep,aG] at hx;obtain⟨o,c,h,_⟩:=hx;cases h
        |sl _ _ _ _=>simp only[Rep] at hx;obtain⟨o,c,h,_⟩:=hx;cases h
        |v y=>
         simp only[Rep,aG] at hx;subst hx
         simp[D.elems] at hel
        |emp=>simp only[Rep,aG] at hx;obtain⟨o,h⟩:=hx;cases h
        |rc cs=>simp only[Rep,aG] at hx;obtain⟨o,c,h,_⟩:=hx;cases h
        |_=>simp[D.elems] at hel
       |_=>have:=hsrc.len;simp[Builtin.lenOf] at this
      refine⟨ad,vs.take (Nat.min m n*j.size),h1,hds.take _,?_,?_⟩
      ·intro u hu
       exact lZ hds hone u (List.mem_of_mem_take hu)
      ·simp[Builtin.copy_,run_underlying hu,hsrc.len,run_sizeOf hj,hfirst]
       cases(storeCells (aO ad off) (List.take (m.min n*j.size) vs)).run P w<;>rfl
     ·cases h
    ·cases h
   ·cases h
  ·cases h
 ·cases h
theorem Sr (hrel:Rel w A β base σ tmps acts) {ts:Array TypeId} {ty:TypeId} {s x:D} {vs vx:Value} (hs:Rep w A β s vs) (hx:Rep w A β x vx) {e:Eff} (h:jQ P σ.bk ts s x=some e):
  Good P w A β (((Builtin.append_ ts ty #[vs,vx]).run P w).andThen fun v w'=> .ok (.value v) w') e:=by
 unfold jQ at h
 split at h
 next t t2=>
  split at h
  next el e2 hu hu2=>
   split at h
   next j hj=>
    split at h
    next z hz=>
     split at h
     next hb=>
      split at h
      next m ds hel=>
       split at h
       next hone=>
        obtain⟨us,hsrc,hds,hdl⟩:=ER (P:=P) hrel hx hel
        split at h
        ·split at h
         next hbd=>
          simp at h;subst h
          have hs0:=hs
          simp only[Rep,aG] at hs;subst hs
          exact⟨t,t2,ty,el,e2,j,z,none,0,0,vx,us,hu,hu2,hj,hz,hb.2,hb.1,rfl,hsrc,hds,lZ hds hone,by rw[Nat.zero_add];exact hbd,hdl,hs0,(fun _ _ _ _ h=>by cases h),(fun u h=>by cases h;rfl),rfl⟩
         next=>cases h
        ·split at h
         next hbd=>
          have hs0:=hs
          simp only[Rep,aG] at hs
          obtain⟨o,rfl⟩:=hs
          cases m with
          |zero=>
           simp[kJ] at h;subst h
           have hds0:ds=[]:=List.length_eq_zero_iff.1 (by omega)
           subst hds0
           simp only[aH] at hds;subst hds
           have hd2:∀ k,TypeDesc.slice e2≠ .int k:=fun k h=>by cases h
           have g:=kL (w:=w) (w':=w) (ty:=ty) hu hj hu2 hd2 hsrc (n:=0) (c:=0) (o:=some o) (by omega) (fun a h=>by simp[storeCells]) (fun _=>rfl)
           exact⟨_,by rw[g];rfl,by simpa using hs0⟩
          |succ m=>
          simp[kJ] at h;subst h
          exact⟨t,t2,ty,el,e2,j,z,some o,0,0,vx,us,hu,hu2,hj,hz,hb.2,hb.1,rfl,hsrc,hds,lZ hds hone,by rw[Nat.zero_add];exact hbd,hdl,hs0,(fun _ _ _ _ h=>by cases h),(fun u h=>by cases h),rfl⟩
         next=>cases h
        next id off n sz=>
         split at h
         next hbd=>
          obtain⟨sz,r⟩:=sz
          try simp only at hbd
          obtain⟨rfl,hbd⟩:=hbd
          have hs0:=hs
          simp only[Rep] at hs
          obtain⟨o,c,rfl,hsr⟩:=hs
          try simp only at hsr
          cases m with
          |zero=>
           simp[kJ] at h;subst h
           have hds0:ds=[]:=List.length_eq_zero_iff.1 (by omega)
           subst hds0
           simp only[aH] at hds;subst hds
           have hd2:∀ k,TypeDesc.slice e2≠ .int k:=fun k h=>by cases h
           have g:=kL (w:=w) (w':=w) (ty:=ty) hu hj hu2 hd2 hsrc (n:=n) (c:=c) (o:=o) (by rcases hsr with h | h<;>omega) (fun a h=>by simp[storeCells]) (fun _=>rfl)
           exact⟨_,by rw[g];rfl,by simpa using hs0⟩
          |succ m=>
          simp[kJ] at h;subst h
          exact⟨t,t2,ty,el,e2,j,z,o,n,c,vx,us,hu,hu2,hj,hz,hb.2,hb.1,rfl,hsrc,hds,lZ hds hone,hbd,hdl,hs0,(fun _ _ _ _ h=>by cases h;rfl),(fun u h=>by cases h),rfl⟩
         next=>cases h
        ·cases h
       next=>cases h
      next=>cases h
     next=>cases h
    next=>cases h
   next=>cases h
  next=>cases h
 ·cases h
theorem Lj {z:Array Value} {n:Nat} {u:Value} (h:u∈(Builtin.zeroCells z n).toList):u∈z.toList:=by
 simp only[Builtin.zeroCells,Array.toList_map,Array.toList_range,List.mem_map,List.mem_range] at h
 obtain⟨i,hi,rfl⟩:=h
 have hz:0<z.size:=by
  rcases Nat.eq_zero_or_pos z.size with e | e
  ·rw[e] at hi;omega
  ·exact e
 have hlt:i%z.size<z.size:=Nat.mod_lt _ hz
 rw[getElem!_pos z (i%z.size) hlt]
 simp
theorem Q5 {ts:Array TypeId} {ty:TypeId} {d:D} {vd:Value} (hd:Rep w A β d vd) {e:Eff} (h:Qd P ts d=some e):
  Good P w A β (((Builtin.clear_ ts ty #[vd]).run P w).andThen fun v w'=> .ok (.value v) w') e:=by
 unfold Qd at h
 split at h
 next t=>
  split at h
  next el hu=>
   split at h
   next j hj=>
    split at h
    next z hz=>
     split at h
     next id off n sz=>
      split at h
      next hc=>
       simp only[Option.some.injEq] at h;subst h
       obtain⟨hn0,hsz,hone⟩:=hc
       simp only[Rep] at hd
       obtain⟨o,c,rfl,hd⟩:=hd
       rcases hd with⟨h1,_⟩ | ⟨_,ad,h1,rfl,_⟩
       ·exact absurd (by omega) hn0
       refine⟨ad,(Builtin.zeroCells z.cells n).toList,h1,aH.oV _,fun u hu=>List.all_eq_true.1 hone u (Lj hu),?_⟩
       cases n with
       |zero=>exact absurd rfl hn0
       |succ n=>
        simp only[Builtin.clear_,Sem.run_bind,run_underlying hu,iP hj hz,Result.andThen_ok,Sem.run_pure,List.getElem?_toArray,List.getElem?_cons_zero]
        cases(storeCells (aO ad off) (Builtin.zeroCells z.cells (n+1)).toList).run P w<;>rfl
      ·cases h
     ·cases h
    ·cases h
   ·cases h
  ·cases h
 ·cases h
inductive SV:Nat→Value→Prop
 |slice {ad:Addr} {n c:Nat}:SV 1 (.slice (some ad) n c)
 |ptr {ad:Addr}:SV 2 (.pointer (some ad))
 |fn {f:Fn} {a b:Array Value}:SV 3 (.func f a b)
theorem MF {a:D} {va:Value} (ha:Rep w A β a va) {k:Nat} (h:jv a=k) (hk:k≠0):SV k va:=by
 cases a with
 |sh n cs=>
  simp only[jv] at h
  split at h
  ·exact absurd h.symm hk
  next hn=>
   subst h
   simp only[Rep,aG] at ha
   obtain⟨o,c,rfl,_,h1,_⟩:=ha
   obtain⟨ad,rfl,_⟩:=h1 (.inl hn)
   exact .slice
 |sl id off n sz=>
  simp only[jv] at h
  split at h
  ·exact absurd h.symm hk
  next hn=>
   subst h
   simp only[Rep] at ha
   obtain⟨o,c,rfl,h1⟩:=ha
   rcases h1 with⟨h1,_⟩ | ⟨_,ad,_,rfl,_⟩
   ·exact absurd (by omega) hn
   ·exact .slice
 |rc cs=>
  simp only[jv,cond_eq_ite] at h
  split at h
  next hL=>
   subst h
   simp only[Rep,aG] at ha
   obtain⟨o,c,rfl,hv,_⟩:=ha
   cases o with
   |none=>exact absurd rfl (hv hL)
   |some ad=>exact .slice
  next=>exact absurd h.symm hk
 |emp=>simp only[jv] at h;subst h;simp only[Rep,aG] at ha;obtain⟨ad,rfl⟩:=ha;exact .slice
 |ptr id off=>simp only[jv] at h;subst h;simp only[Rep] at ha;obtain⟨ad,_,rfl⟩:=ha;exact .ptr
 |pel id i n j=>simp only[jv] at h;subst h;simp only[Rep] at ha;obtain⟨ad,_,rfl⟩:=ha;exact .ptr
 |shp cs off=>simp only[jv] at h;subst h;simp only[Rep,aG] at ha;obtain⟨ad,rfl,_⟩:=ha;exact .ptr
 |fn f cs=>simp only[jv] at h;subst h;simp only[Rep] at ha;obtain⟨vs,rfl,_⟩:=ha;exact .fn
 |_=>simp only[jv] at h;exact absurd h.symm hk
inductive aej:Nat→Value→Prop
 |slice:aej 1 (.slice none 0 0)
 |ptr:aej 2 (.pointer none)
 |fn:aej 3 .nilFunc
theorem Q9 {b:D} {vb:Value} (hb:Rep w A β b vb) {k:Nat} (h:F5 b=k) (hk:k≠0):aej k vb:=by
 unfold F5 at h
 split at h
 ·subst h;simp only[Rep,aG] at hb;subst hb;exact .slice
 ·subst h;simp only[Rep,aG] at hb;subst hb;exact .ptr
 ·subst h;simp only[Rep,aG] at hb;subst hb;exact .fn
 ·exact absurd h.symm hk
theorem PI {bop:BinOp} {t:TypeId} {x y:Operand} {a b:D} {va vb:Value} (ha:Rep w A β a va) (hb:Rep w A β b vb) {e:Eff} (h:Gy P bop t a b=some e):
  ∃ d u,e= .val d∧(do eqGuard bop t x y va vb;binOp bop t va vb:Sem Value).run P w= .ok u w∧Rep w A β d u:=by
 unfold Gy at h
 split at h
 next d hu=>
  have hk:gX d≠0:=by unfold gX;split<;>decide
  have hno:gX d≠4→(∀ k v,SV k v→k=gX d→∀ v',aej k v'→∀ m,(Op.equalIn (m+1) t v v').run P w= .ok false w∧(Op.equalIn (m+1) t v' v).run P w= .ok false w):=by
   intro h4 k v hv hkd v' hn m
   cases hv with
   |slice=>
    cases hn
    cases d<;>simp[gX] at hkd
    simp[Op.equalIn,run_underlying hu]
   |ptr=>
    cases hn
    cases d<;>simp[gX] at hkd
    simp[Op.equalIn,run_underlying hu]
   |fn=>
    cases hn
    cases d<;>simp[gX] at hkd
    simp[Op.equalIn,run_underlying hu]
  have fin:∀ (hh:(Op.equal t va vb).run P w= .ok false w) (hg:(eqGuard .eql t x y va vb).run P w= .ok () w∧(eqGuard .neq t x y va vb).run P w= .ok () w)
    (hb2:binOp .eql t va vb=(do pure (.bool (←Op.equal t va vb)))∧binOp .neq t va vb=(do pure (.bool (!(←Op.equal t va vb))))),
    ∀ e,(match bop with | .eql=>some (Eff.val (.v (.bool false))) | .neq=>some (.val (.v (.bool true))) | _=>none)=some e→
     ∃ d u,e= .val d∧(do eqGuard bop t x y va vb;binOp bop t va vb:Sem Value).run P w= .ok u w∧Rep w A β d u:=by
   intro hh hg hb2 e he
   cases bop<;>simp only[Option.some.injEq] at he<;>first | (cases he;done) | skip
   ·subst he;refine⟨_, .bool false,rfl,?_,by simp[Rep,aG]⟩
    rw[hb2.1]
    simp only[Sem.run_bind,hg.1,Result.andThen_ok,hh,Sem.run_pure]
   ·subst he;refine⟨_, .bool true,rfl,?_,by simp[Rep,aG]⟩
    rw[hb2.2]
    simp only[Sem.run_bind,hg.2,Result.andThen_ok,hh,Sem.run_pure,Bool.not_false]
  split at h
  next hc=>
   rcases hc with⟨h1,h2⟩ | ⟨h1,h2⟩
   ·have hv:=MF ha h1 hk
    have hn:=Q9 hb h2 hk
    have h4:gX d≠4:=by intro h4;rw[h4] at hv;cases hv
    refine fin (hno h4 _ _ hv rfl _ hn 9999).1 ?_ ?_ e h
    all_goals generalize gX d=kk at hv hn
    ·cases hv<;>cases hn<;>simp[eqGuard]
    ·cases hv<;>cases hn<;>exact⟨rfl,rfl⟩
   ·have hv:=MF hb h2 hk
    have hn:=Q9 ha h1 hk
    have h4:gX d≠4:=by intro h4;rw[h4] at hv;cases hv
    refine fin (hno h4 _ _ hv rfl _ hn 9999).2 ?_ ?_ e h
    all_goals generalize gX d=kk at hv hn
    ·cases hv<;>cases hn<;>simp[eqGuard]
    ·cases hv<;>cases hn<;>exact⟨rfl,rfl⟩
  ·cases h
 ·cases h
theorem UI {bop:BinOp} {t:TypeId} {x y:Operand} {k k':IntKind} {a b:Int}:(eqGuard bop t x y (.int k a) (.int k' b)).run P w= .ok () w:=by
 cases bop<;>rfl
theorem ahz {k yk:IntKind} {x y:Int} (h:¬ y<0):(Op.shift .shl k x yk y).run P w= .ok (.int k (ai .shl k x y)) w:=by
 unfold Op.shift;rw[if_neg h];rfl
theorem aia {k yk:IntKind} {x y:Int} (h:¬ y<0):(Op.shift .shr k x yk y).run P w= .ok (.int k (ai .shr k x y)) w:=by
 unfold Op.shift;rw[if_neg h];rfl
theorem aho {k:IntKind} {x y:Int} (h:¬ y=0):(Op.intDiv .quo k x y).run P w= .ok (.int k (ai .quo k x y)) w:=by
 unfold Op.intDiv;rw[if_neg h];rfl
theorem agQ {k:IntKind} {x y:Int} (h:¬ y=0):(Op.intDiv .rem k x y).run P w= .ok (.int k (ai .rem k x y)) w:=by
 unfold Op.intDiv;rw[if_neg h];rfl
theorem Xd {bop:BinOp} {t:TypeId} {k k':IntKind} {p q:Int} {d:D} (h:intD bop k k' p q=some d):
  ∃ u,(binOp bop t (.int k p) (.int k' q)).run P w= .ok u w∧Rep w A β d u:=by
 unfold intD at h
 split at h
 case h_1=>
  split at h
  next hc=>simp only[Option.some.injEq] at h;subst h;exact⟨_,ahz (yk:=k') (show ¬ q<0 by omega),by simp[Rep,aG]⟩
  ·cases h
 case h_2=>
  split at h
  next hc=>simp only[Option.some.injEq] at h;subst h;exact⟨_,aia (yk:=k') (show ¬ q<0 by omega),by simp[Rep,aG]⟩
  ·cases h
 case h_3=>
  split at h
  next hk=>
   subst hk
   split at h
   ·cases h
   next hc=>
    simp only[Option.some.injEq] at h;subst h
    refine⟨.int k (ai .quo k p q),?_,by simp[Rep,aG]⟩
    simp only[binOp,ne_eq,not_true_eq_false,if_false]
    exact aho hc
  ·cases h
 case h_4=>
  split at h
  next hk=>
   subst hk
   split at h
   ·cases h
   next hc=>
    simp only[Option.some.injEq] at h;subst h
    refine⟨.int k (ai .rem k p q),?_,by simp[Rep,aG]⟩
    simp only[binOp,ne_eq,not_true_eq_false,if_false]
    exact agQ hc
  ·cases h
 case h_5 | h_6 | h_7 | h_8 | h_9 | h_10 | h_11=>
  split at h
  next hk=>
   subst hk
   simp only[Option.some.injEq] at h;subst h
   refine⟨_,?_,by simp only[Rep,aG];rfl⟩
   simp only[binOp,Op.intArith,Op.intBits,Sem.run_pure,ai,ne_eq,not_true_eq_false,if_false]
  ·cases h
 case h_12 | h_13 | h_14 | h_15 | h_16 | h_17=>
  split at h
  next hk=>
   subst hk
   simp only[Option.some.injEq] at h;subst h
   refine⟨_,?_,by simp only[Rep,aG];rfl⟩
   simp only[binOp,Op.intCmp,Sem.run_pure,ah,ne_eq,not_true_eq_false,if_false]
  ·cases h
theorem BD {op:BinOp} {f:Value→Value→Sem Value} (hf:∀ k x k' y,f (.int k x) (.int k' y)= .pure (.int k (jJ op x y))) {k:IntKind}:∀ (ds:List D) (vs:List Value) (p:Int) (d:D),aH w A β ds vs→JX op k p ds=some d→
  ∃ u,(vs.foldlM f (.int k p)).run P w= .ok u w∧Rep w A β d u
 |[],vs,p,d,hr,h=>by
  simp only[aH] at hr;subst hr
  simp only[JX,Option.some.injEq] at h;subst h
  exact⟨_,rfl,by simp[Rep,aG]⟩
 |x::ds,vs,p,d,hr,h=>by
  simp only[aH] at hr
  obtain⟨v,vs,rfl,h1,h2⟩:=hr
  unfold JX at h
  split at h
  ·rename_i he;cases he
  next k' q ds' he=>
   simp only[List.cons.injEq] at he
   obtain⟨rfl,rfl⟩:=he
   split at h
   next hk=>
    subst hk
    simp only[Rep,aG] at h1;subst h1
    obtain⟨u,h3,h4⟩:=BD hf ds _ _ d h2 h
    refine⟨u,?_,h4⟩
    rw[List.foldlM_cons,hf]
    exact h3
   ·cases h
  ·cases h
theorem ED {op:BinOp} {f:Value→Value→Sem Value} (hf:∀ k x k' y,f (.int k x) (.int k' y)= .pure (.int k (jJ op x y))) {ds:List D} {vs:List Value} {d:D} {why:String} (hr:aH w A β ds vs) (h:aeH op ds=some d):
  ∃ u,(match vs with | []=>stuck why | x::rest=>rest.foldlM f x:Sem Value).run P w= .ok u w∧Rep w A β d u:=by
 unfold aeH at h
 split at h
 next k p ds=>
  simp only[aH] at hr
  obtain⟨v,vs,rfl,h1,h2⟩:=hr
  simp only[Rep,aG] at h1;subst h1
  exact BD hf ds vs p d h2 h
 ·cases h
theorem apq (k:IntKind) (x:Int) (k':IntKind) (y:Int):Builtin.max2 (.int k x) (.int k' y)= .pure (.int k (jJ .gtr x y)):=by
 simp only[Builtin.max2,jJ,ah]
 by_cases h:y > x<;>simp[h]<;>rfl
theorem apF (k:IntKind) (x:Int) (k':IntKind) (y:Int):Builtin.min2 (.int k x) (.int k' y)= .pure (.int k (jJ .lss x y)):=by
 simp only[Builtin.min2,jJ,ah]
 by_cases h:y<x<;>simp[h]<;>rfl
theorem abz {uop:UnOp} {a:D} {va:Value} (ha:Rep w A β a va) {d:D} (h:unD uop a=some d):
  ∃ u,(Op.unary uop va).run P w= .ok u w∧Rep w A β d u:=by
 unfold unD at h
 split at h
 all_goals first | (cases h;done) | skip
 all_goals (simp only[Option.some.injEq] at h;subst h;simp only[Rep,aG] at ha;subst ha)
 ·exact⟨_,rfl,by simp[Rep,aG]⟩
 ·exact⟨_,rfl,by simp[Rep,aG,ai]⟩
 ·exact⟨_,rfl,by simp[Rep,aG,ai]⟩
theorem UZ {src dst:TypeId} {a:D} {va:Value} (ha:Rep w A β a va) {d:D} (h:ac6 P src dst a=some d):
  ∃ u,(convert src dst va).run P w= .ok u w∧Rep w A β d u:=by
 unfold ac6 at h
 split at h
 next k0 p ds k h1 h2=>
  simp only[Option.some.injEq] at h;subst h
  simp only[Rep,aG] at ha;subst ha
  refine⟨.int k (k.wrap p),?_,by simp only[Rep,aG]⟩
  simp only[convert,Sem.run_bind,run_underlying h1,run_underlying h2,Result.andThen_ok,Conv.intToInt,Sem.run_pure]
 ·cases h
theorem RF {c:Bool} {a b:D} {va vb:Value} (ha:Rep w A β a va) (hb:Rep w A β b vb):Rep w A β (aeN c a b) (if c=true then va else vb):=by
 unfold aeN
 split
 ·split
  next hk=>subst hk;simp only[Rep,aG] at ha hb ⊢;subst ha hb;cases c<;>rfl
  next=>cases c<;>assumption
 ·simp only[Rep,aG] at ha hb ⊢;subst ha hb;cases c<;>rfl
 ·cases c<;>assumption
def EY (b:Bool):Option Bool×Unit:=if b then(none,()) else(some false,())
theorem oZ {f:TypeId→D→D→Option Bool} {E:TypeId→Value→Value→Sem Bool} (hE:∀ t x y s vx vy,f t x y=some s→Rep w A β x vx→Rep w A β y vy→(E t vx vy).run P w= .ok s w)
  {xs ys:List D} {vx vy:List Value} (ha:aH w A β xs vx) (hb:aH w A β ys vy):∀ (l:List Field) (s:Bool),eqFields P f xs ys l=some s→
  (forIn l ((none, ()) : Option Bool × Unit) (fun (f : Field) (_ : Option Bool × Unit) => if f.name ≠ "_" then do
    let a ←part f.type vx.toArray f.offset
    let b ←part f.type vy.toArray f.offset
    let c ←E f.type a b
    if(!c)=true then pure (ForInStep.done (some false,())) else pure (ForInStep.yield (none,()))
   else pure (ForInStep.yield (none,()))):Sem (Option Bool×Unit)).run P w= .ok (EY s) w
 |[],s,h=>by
  simp only[eqFields,Option.some.injEq] at h;subst h
  simp[EY]
 |fd::l,s,h=>by
  simp only[eqFields] at h
  rw[List.forIn_cons]
  split at h
  next hn=>
   split at h
   next x y hx hy=>
    split at h
    next s1 r hs hr=>
     simp only[Option.some.injEq] at h;subst h
     obtain⟨ux,k1,k2⟩:=qY (P:=P) ha hx
     obtain⟨uy,k3,k4⟩:=qY (P:=P) hb hy
     have k5:=hE fd.type x y s1 ux uy hs k2 k4
     have ih:=oZ hE ha hb l r hr
     simp only[if_pos hn,Sem.run_bind,k1,k3,k5,Result.andThen_ok]
     cases hc:s1 with
     |false=>simp[EY]
     |true=>simp only[Bool.not_true,Bool.false_eq_true,if_false,Sem.run_pure,Result.andThen_ok,Bool.true_and];exact ih
    ·cases h
   ·cases h
  next hn=>
   have ih:=oZ hE ha hb l s h
   simp only[if_neg hn,Sem.run_bind,Sem.run_pure,Result.andThen_ok]
   exact ih
theorem y8 {f:D→D→Option Bool} {E:Value→Value→Sem Bool} (hE:∀ x y s vx vy,f x y=some s→Rep w A β x vx→Rep w A β y vy→(E vx vy).run P w= .ok s w)
  {elem:TypeId} {size:Nat} {xs ys:List D} {vx vy:List Value} (ha:aH w A β xs vx) (hb:aH w A β ys vy):∀ (n i:Nat) (s:Bool),AX P f elem size xs ys i n=some s→
  (forIn (List.range' i n 1) ((none,()):Option Bool×Unit) (fun (i:Nat) (_:Option Bool×Unit)=>do
    let a ←part elem vx.toArray (i*size)
    let b ←part elem vy.toArray (i*size)
    let c ←E a b
    if(!c)=true then pure (ForInStep.done (some false,())) else pure (ForInStep.yield (none,()))):Sem (Option Bool×Unit)).run P w= .ok (EY s) w
 |0,i,s,h=>by
  simp only[AX,Option.some.injEq] at h;subst h
  simp[EY]
 |n+1,i,s,h=>by
  simp only[AX] at h
  rw[List.range'_succ,List.forIn_cons]
  split at h
  next x y hx hy=>
   split at h
   next s1 r hs hr=>
    simp only[Option.some.injEq] at h;subst h
    obtain⟨ux,k1,k2⟩:=qY (P:=P) ha hx
    obtain⟨uy,k3,k4⟩:=qY (P:=P) hb hy
    have k5:=hE x y s1 ux uy hs k2 k4
    have ih:=y8 hE ha hb n (i+1) r hr
    simp only[Sem.run_bind,k1,k3,k5,Result.andThen_ok]
    cases hc:s1 with
    |false=>simp[EY]
    |true=>simp only[Bool.not_true,Bool.false_eq_true,if_false,Sem.run_pure,Result.andThen_ok,Bool.true_and];exact ih
   ·cases h
  ·cases h
theorem yO:∀ (d:Nat) (t:TypeId) (a b:D) (s:Bool) (va vb:Value),eqV P d t a b=some s→Rep w A β a va→Rep w A β b vb→∀ d',d≤d'→(Op.equalIn d' t va vb).run P w= .ok s w
 |0,t,a,b,s,va,vb,h,ha,hb,d',hd=>by simp[eqV] at h
 |d+1,t,a,b,s,va,vb,h,ha,hb,d',hd=>by
  obtain⟨d',rfl⟩:∃ e,d'=e+1:=⟨d' - 1,by omega⟩
  simp only[eqV] at h
  split at h
  next hu=>
   unfold Yz at h
   split at h
   next x y=>
    simp only[Option.some.injEq] at h;subst h
    simp only[Rep,aG] at ha hb;subst ha hb
    simp only[Op.equalIn,Sem.run_bind,run_underlying hu,Result.andThen_ok,Sem.run_pure]
   ·cases h
  next hu=>
   unfold ac7 at h
   split at h
   next k x k' y=>
    split at h
    next hk=>
     subst hk
     simp only[Option.some.injEq] at h;subst h
     simp only[Rep,aG] at ha hb;subst ha hb
     simp only[Op.equalIn,Sem.run_bind,run_underlying hu,Result.andThen_ok,Sem.run_pure,if_true]
    ·cases h
   ·cases h
  next fields hu=>
   split at h
   next xs ys=>
    split at h
    ·cases h
    next hst=>
     simp only[Rep] at ha hb
     obtain⟨vx,rfl,ha⟩:=ha
     obtain⟨vy,rfl,hb⟩:=hb
     have k:=oZ (P:=P) (E:=Op.equalIn d') (fun t x y s vx vy h hx hy=>yO d t x y s vx vy h hx hy d' (by omega)) ha hb fields.toList s h
     rw[Array.forIn_toList] at k
     simp only[Op.equalIn,Sem.run_bind,run_underlying hu,Result.andThen_ok]
     show(Sem.run P (if P.stoodInHeld t=true then _ else _) w)=_
     rw[if_neg hst]
     simp only[Sem.run_bind,k,Result.andThen_ok,EY]
     cases s<;>rfl
   ·cases h
  next len elem hu=>
   split at h
   next xs ys j hj=>
    simp only[Rep] at ha hb
    obtain⟨vx,rfl,ha⟩:=ha
    obtain⟨vy,rfl,hb⟩:=hb
    have k:=y8 (P:=P) (E:=Op.equalIn d' elem) (fun x y s vx vy h hx hy=>yO d elem x y s vx vy h hx hy d' (by omega)) ha hb len 0 s h
    simp only[Op.equalIn,Sem.run_bind,run_underlying hu,Result.andThen_ok,run_sizeOf hj]
    rw[Std.Legacy.Range.forIn_eq_forIn_range']
    simp only[Std.Legacy.Range.size,Nat.sub_zero,Nat.add_sub_cancel,Nat.div_one]
    simp only[k,Result.andThen_ok,EY]
    cases s<;>rfl
   ·cases h
  ·cases h
theorem IC {d:D} {v:Value} (hd:Rep w A β d v) (hq:D9 d=true):(∃ vs,v= .agg vs)∨∃ b,v= .bool b:=by
 unfold D9 at hq
 split at hq
 ·simp only[Rep] at hd;obtain⟨vs,rfl,_⟩:=hd;exact .inl ⟨_,rfl⟩
 ·simp only[Rep,aG] at hd;exact .inr ⟨_,hd⟩
 ·cases hq
theorem JB {t:TypeId} {x y:Operand} {a b:D} {va vb:Value} (ha:Rep w A β a va) (hb:Rep w A β b vb) (h1:D9 a=true) (h2:D9 b=true) (hg:¬ P.eqGuardType P.depth t=true) {s:Bool}
  (h:(Op.equalIn Op.maxDepth t va vb).run P w= .ok s w):(do eqGuard .eql t x y va vb;binOp .eql t va vb:Sem Value).run P w= .ok (.bool s) w∧(do eqGuard .neq t x y va vb;binOp .neq t va vb:Sem Value).run P w= .ok (.bool (!s)) w:=by
 rcases IC ha h1 with⟨vs,rfl⟩ | ⟨p,rfl⟩<;>rcases IC hb h2 with⟨us,rfl⟩ | ⟨q,rfl⟩<;>simp[eqGuard,hg,binOp,Op.equal,h]
theorem abv {bop:BinOp} {t:TypeId} {x y:Operand} {a b:D} {va vb:Value} (ha:Rep w A β a va) (hb:Rep w A β b vb) {d:D} (h:eqD P bop t a b=some d):
  ∃ u,(do eqGuard bop t x y va vb;binOp bop t va vb:Sem Value).run P w= .ok u w∧Rep w A β d u:=by
 unfold eqD at h
 split at h
 next hq=>
  split at h
  ·cases h
  next hg=>
   split at h
   ·simp only[Option.map_eq_some_iff] at h
    obtain⟨s,hs,rfl⟩:=h
    have:=yO 20 t _ _ s _ _ hs ha hb Op.maxDepth (by decide)
    refine⟨.bool s,?_,by simp[Rep,aG]⟩
    exact(JB ha hb hq.1 hq.2 hg this).1
   ·simp only[Option.map_eq_some_iff] at h
    obtain⟨s,hs,rfl⟩:=h
    have:=yO 20 t _ _ s _ _ hs ha hb Op.maxDepth (by decide)
    refine⟨.bool (!s),?_,by simp[Rep,aG]⟩
    exact(JB ha hb hq.1 hq.2 hg this).2
   ·cases h
 ·cases h
theorem LG {bop:BinOp} {t:TypeId} {x y:Operand} {a b:D} {va vb:Value} (ha:Rep w A β a va) (hb:Rep w A β b vb) {e:Eff} (h:Ci P bop t x y a b=some e):
  Good P w A β (((do eqGuard bop t x y va vb;binOp bop t va vb:Sem Value).run P w).andThen fun v w'=> .ok (.value v) w') e:=by
 unfold Ci at h
 split at h
 next d hd=>
  simp only[Option.some.injEq] at h
  obtain⟨u,h1,h2⟩:=abv (t:=t) (x:=x) (y:=y) (P:=P) ha hb hd
  exact jM ⟨d,u,h.symm,h1,h2⟩
 next=>
  split at h
  next u v hu hv=>
   rw[←ha.plain hu,←hb.plain hv] at h
   exact rO h
  next=>exact jM (PI ha hb h)
theorem Vt {bop:BinOp} {t:TypeId} {x y:Operand} {a b:D} {va vb:Value} (ha:Rep w A β a va) (hb:Rep w A β b vb) {e:Eff} (h:abk P bop t x y a b=some e):
  Good P w A β (((do eqGuard bop t x y va vb;binOp bop t va vb:Sem Value).run P w).andThen fun v w'=> .ok (.value v) w') e:=by
 unfold abk at h
 split at h
 next k p k' q=>
  simp only[Option.map_eq_some_iff] at h
  obtain⟨d,hd,rfl⟩:=h
  simp only[Rep,aG] at ha hb;subst ha hb
  obtain⟨u,h3,h4⟩:=Xd (t:=t) (P:=P) (w:=w) (A:=A) (β:=β) hd
  exact jM ⟨d,u,rfl,by simp only[Sem.run_bind,UI,Result.andThen_ok,h3],h4⟩
 ·exact LG ha hb h
theorem Ep (hrel:Rel w A β base σ tmps acts) {ρ:Operand→D} {ρv:Operand→Value} (hρ:∀ x,Rep w A β (ρ x) (ρv x)) (o:Oper) {e:Eff} (h:dR P σ.bk ρ o.type o.op=some e):
  (∃ r,(execOp ρv o).run P w=r∧Good P w A β r e):=by
 refine⟨_,rfl,?_⟩
 obtain⟨dst,op,type,pos,after,guard⟩:=o
 simp only at h
 cases op with
 |move x=>simp only[dR,Option.some.injEq] at h;subst h;exact⟨ρv x,by simp[execOp],hρ x⟩
 |assign x=>simp only[dR,Option.some.injEq] at h;subst h;exact⟨ρv x,by simp[execOp],hρ x⟩
 |pick c a b=>
  simp only[dR] at h
  unfold PV at h
  split at h
  next c' hc=>
   simp at h;subst h
   have:=hρ c
   rw[hc] at this
   simp only[Rep,aG] at this
   exact⟨_,by simp[execOp,this,asBool],RF (hρ a) (hρ b)⟩
  ·cases h
 |alloc t=>
  simp only[dR,Option.map_eq_some_iff] at h
  obtain⟨z,hz,rfl⟩:=h
  obtain⟨i,v,hi,hv,rfl⟩:=rQ hz
  refine⟨t,v.cells.toList,aH.oV _,?_⟩
  simp[execOp,Instr.alloc,iP hi hv,newVar,newRow]
 |box t x=>
  simp only[dR,Option.map_eq_some_iff] at h
  obtain⟨cs,hc,rfl⟩:=h
  exact⟨t,(ρv x).cells.toList,uM (hρ x) hc,by simp[execOp,Instr.box,newVar,newRow]⟩
 |build t parts=>exact pW (jM (Tt hρ h))
 |buildSlice t len parts=>exact pW (Ef hρ h)
 |load t a=>
  simp only[dR,S9] at h
  split at h
  ·cases h
  next cs off hb=>
   simp only[Option.map_eq_some_iff] at h
   obtain⟨d,hd,rfl⟩:=h
   have hne:cs≠[]:=by
    rintro rfl
    unfold takeD at hd
    split at hd
    ·cases hd
    ·split at hd
     ·split at hd
      next hlt=>simp at hlt;omega
      ·cases hd
     ·simp at hd
   obtain⟨ad,h1,h2,h3⟩:=EK hrel (hρ a) hb hne
   obtain⟨u,k1,k2⟩:=UA (P:=P) h2 h3 hd
   exact⟨u,by simp[execOp,Instr.loadAt,h1,Instr.sureAddr,k1],k2⟩
 |store t a x=>
  simp only[dR,wM] at h
  split at h
  next id off ds i ha hc hi=>
   split at h
   next hb=>
    simp at h;subst h
    have ha':=hρ a
    rw[ha] at ha'
    simp only[Rep] at ha'
    obtain⟨ad,h1,h2⟩:=ha'
    have hcs:=uM (hρ x) hc
    refine⟨ad,(ρv x).cells.toList,h1,hcs,lZ hcs hb.2,?_⟩
    have hlen:=hcs.length
    have hsz:(ρv x).cells.size=i.size:=by simpa [hb.1] using hlen
    simp[execOp,Instr.storeAt,h2,Instr.sureAddr,storeVar,run_sizeOf hi,hsz]
   ·cases h
  next id i0 n j ds i ha hc hi=>
   split at h
   next hb=>
    simp at h;subst h
    have ha':=hρ a
    rw[ha] at ha'
    simp only[Rep] at ha'
    obtain⟨ad,h1,h2⟩:=ha'
    have hcs:=uM (hρ x) hc
    refine⟨ad,(ρv x).cells.toList,h1,hcs,lZ hcs hb.2,?_⟩
    have hlen:=hcs.length
    have hsz:(ρv x).cells.size=i.size:=by simpa [hb.1] using hlen
    simp[execOp,Instr.storeAt,h2,Instr.sureAddr,storeVar,run_sizeOf hi,hsz]
   ·cases h
  ·cases h
 |nilCheck x=>
  simp only[dR] at h
  have hx:=hρ x
  unfold Ze at h
  split at h
  next id off he=>
   simp at h;subst h
   rw[he] at hx
   have hx0:=hx
   simp only[Rep] at hx
   obtain⟨ad,h1,h2⟩:=hx
   exact⟨.pointer (some (aO ad off)),by simp[execOp,h2],by rw[←h2];exact hx0⟩
  next id i n j he=>
   simp at h;subst h
   rw[he] at hx
   have hx0:=hx
   simp only[Rep] at hx
   obtain⟨ad,h1,h2⟩:=hx
   exact⟨.pointer (some (aO ad (i*n+j))),by simp[execOp,h2],by rw[←h2];exact hx0⟩
  next cs off he=>
   simp at h;subst h
   rw[he] at hx
   have hx0:=hx
   simp only[Rep,aG] at hx
   obtain⟨ad,h1,h2⟩:=hx
   exact⟨ρv x,by simp[execOp,h1],hx0⟩
  next f cs he=>
   simp at h;subst h
   rw[he] at hx
   have hx0:=hx
   simp only[Rep] at hx
   obtain⟨vs,h1,h2⟩:=hx
   exact⟨ρv x,by simp[execOp,h1],hx0⟩
  ·cases h
 |binOp bop t x y yt=>simp only[dR] at h;exact pW (Vt (hρ x) (hρ y) h)
 |unOp uop t x=>
  simp only[dR] at h
  unfold ahn at h
  split at h
  next d hd=>
   simp only[Option.some.injEq] at h;subst h
   obtain⟨u,h1,h2⟩:=abz (P:=P) (hρ x) hd
   exact pW (jM ⟨d,u,rfl,h1,h2⟩)
  ·split at h
   next a ha=>rw[←(hρ x).plain ha] at h;exact pW (rO h)
   ·cases h
 |convert src dst' x=>
  simp only[dR] at h
  unfold QA at h
  split at h
  next d hd=>
   simp only[Option.some.injEq] at h;subst h
   obtain⟨u,h1,h2⟩:=UZ (P:=P) (hρ x) hd
   exact pW (jM ⟨d,u,rfl,h1,h2⟩)
  ·split at h
   next a ha=>rw[←(hρ x).plain ha] at h;exact pW (rO h)
   ·cases h
 |makeFunc fn first captured=>
  cases fn with
  |func f=>
   simp only[dR] at h
   split at h
   next h0=>
    simp at h;subst h
    have h0':first=#[]:=Array.eq_empty_of_size_eq_zero h0
    subst h0'
    refine⟨.func (.func f) #[] (captured.map ρv),by simp[execOp,Instr.makeFunc],?_⟩
    simp only[Rep]
    refine⟨captured.toList.map ρv,by congr 1;apply Array.ext';simp,?_⟩
    exact oL hρ captured.toList
   ·cases h
  |_=>simp[dR] at h
 |makeSlice t l c=>exact pW (FQ (hρ l) (hρ c) h)
 |slice t x lo hi mx=>
  cases mx with
  |none=>exact pW (jM (Ri hrel (hρ x) (F9 hρ lo) (F9 hρ hi) h))
  |some m=>exact pW (jM (OO (hρ x) (F9 hρ lo) (F9 hρ hi) (hρ m) h))
 |fieldAddr t x f=>exact pW (jM (FU (hρ x) h))
 |field t x f=>exact pW (jM (TM (hρ x) h))
 |indexAddr t x ix=>exact pW (jM (FO (hρ x) (hρ ix) h))
 |index t x ix=>exact pW (jM (Tz (hρ x) (hρ ix) h))
 |extract x i=>exact pW (jM (KW (hρ x) h))
 |call c=>
  obtain⟨callee,args,argTypes⟩:=c
  cases callee with
  |builtin b=>
   obtain⟨cks,hres⟩:∃ cks,(execOp ρv ⟨dst, .call ⟨.builtin b,args,argTypes⟩,type,pos,after,guard⟩).run P w=(builtin b argTypes type cks (args.map ρv)).run P w:=⟨_,by simp only[execOp,resolve,invoke,Sem.run_bind,Sem.run_pure,Result.andThen_ok];rfl⟩
   rw[hres]
   cases b with
   |len=>
    simp only[dR] at h
    split at h
    all_goals first | (cases h;done) | skip
    all_goals try (simp only[reduceCtorEq,Op.call.injEq,Call.mk.injEq,Callee.builtin.injEq,false_and,and_false] at *;done)
    next x t heq=>
     simp only[Op.call.injEq,Call.mk.injEq,true_and] at heq
     obtain⟨rfl,rfl⟩:=heq
     obtain⟨d,u,rfl,k1,k2⟩:=aaU (P:=P) (ty:=type) (hρ x) h
     exact⟨u,by simp[builtin,k1],k2⟩
   |append=>
    simp only[dR] at h
    split at h
    all_goals first | (cases h;done) | skip
    all_goals try (simp only[reduceCtorEq,Op.call.injEq,Call.mk.injEq,Callee.builtin.injEq,false_and,and_false] at *;done)
    next s x ts heq=>
     simp only[Op.call.injEq,Call.mk.injEq,true_and] at heq
     obtain⟨rfl,rfl⟩:=heq
     have e1:Array.map ρv ⟨[s,x]⟩=#[ρv s,ρv x]:=by simp
     rw[e1]
     exact pW (Sr hrel (hρ s) (hρ x) h)
   |copy=>
    simp only[dR] at h
    split at h
    all_goals first | (cases h;done) | skip
    all_goals try (simp only[reduceCtorEq,Op.call.injEq,Call.mk.injEq,Callee.builtin.injEq,false_and,and_false] at *;done)
    next s x ts heq=>
     simp only[Op.call.injEq,Call.mk.injEq,true_and] at heq
     obtain⟨rfl,rfl⟩:=heq
     have e1:Array.map ρv ⟨[s,x]⟩=#[ρv s,ρv x]:=by simp
     rw[e1]
     exact pW (Xx hrel (hρ s) (hρ x) h)
   |clear=>
    unfold dR at h
    split at h
    all_goals try (simp only[reduceCtorEq,Op.call.injEq,Call.mk.injEq,Callee.builtin.injEq,false_and,and_false] at *;done)
    next s ts heq=>
     simp only[Op.call.injEq,Call.mk.injEq,true_and] at heq
     obtain⟨rfl,rfl⟩:=heq
     have e1:Array.map ρv ⟨[s]⟩=#[ρv s]:=by simp
     rw[e1]
     exact pW (Q5 (hρ s) h)
   |max=>
    simp only[dR] at h
    unfold xJ at h
    split at h
    next d hd=>
     simp only[Option.some.injEq] at h;subst h
     have hl:aH w A β (args.toList.map ρ) (args.map ρv).toList:=by rw[Array.toList_map];exact oL hρ _
     obtain⟨u,h1,h2⟩:=ED (P:=P) (w:=w) apq hl hd
     exact pW ⟨u,by
      have h1':(Builtin.max_ argTypes type (Array.map ρv args)).run P w= .ok u w:=h1
      rw[h1'];rfl,h2⟩
    ·split at h
     next vs hp=>
      have:=qg hρ _ _ hp
      have e1:args.map ρv=vs.toArray:=by rw[←this];apply Array.ext';simp
      rw[e1]
      exact pW (rO h)
     ·cases h
   |min=>
    simp only[dR] at h
    unfold xJ at h
    split at h
    next d hd=>
     simp only[Option.some.injEq] at h;subst h
     have hl:aH w A β (args.toList.map ρ) (args.map ρv).toList:=by rw[Array.toList_map];exact oL hρ _
     obtain⟨u,h1,h2⟩:=ED (P:=P) (w:=w) apF hl hd
     exact pW ⟨u,by
      have h1':(Builtin.min_ argTypes type (Array.map ρv args)).run P w= .ok u w:=h1
      rw[h1'];rfl,h2⟩
    ·split at h
     next vs hp=>
      have:=qg hρ _ _ hp
      have e1:args.map ρv=vs.toArray:=by rw[←this];apply Array.ext';simp
      rw[e1]
      exact pW (rO h)
     ·cases h
   |_=>simp[dR] at h
  |value f=>simp[dR] at h
  |invoke r m=>simp[dR] at h
 |_=>simp[dR] at h
end
section
variable {P:Program} {w:World} {A:Nat→Prop} {β:Env} {base:Nat} {σ:St} {a:Act} {acts:List (Array Value)}
theorem adm (a:Act) (dst:Option Tmp) (u:Value):(a.put dst u).tmps=match dst with | some t=>a.tmps.setIfInBounds t u | none=>a.tmps:=by
 cases dst<;>rfl
theorem Rel.uN {w:World} {A:Nat→Prop} {β:Env} {base:Nat} {σ:St} {acts:List (Array Value)} (h:Rel w A β base σ a.tmps acts) (dst:Option Tmp) {d:D} {u:Value} (hd:Rep w A β d u):
  Rel w A β base (σ.put dst d) (a.put dst u).tmps acts:=by
 rw[adm];exact h.put dst hd
theorem yP (w:World) (c:Array Value) (T:TypeId):(w.alloc (.cells c T)).heap[w.heap.size]? =some (.cells c T (0,0)):=by show(w.heap.push _)[w.heap.size]? =_;simp
theorem zJ (hrel:Rel w A β base σ a.tmps acts) {o:Oper} {e:Eff} {r:Result Next} (hr:(execOp a.eval o).run P w=r) (hE:Good P w A β r e) {id:Nat} {σ':St} (hs:eY σ o.dst id e=some σ'):
  ∃ u w' β',((execOp a.eval o).run P w= .ok (.value u) w'∨((execOp a.eval o).run P w= .ok .skip w'∧u=undef))∧Rel w' A β' base σ' (a.put o.dst u).tmps acts∧Turn A A base w w':=by
 cases e with
 |val d=>
  obtain⟨u,h1,h2⟩:=hE
  simp[eY] at hs;subst hs
  exact⟨u,w,β, .inl (by rw[hr,h1]),hrel.uN o.dst h2, .refl _ _ _⟩
 |box cs=>
  obtain⟨T,vs,h1,h2⟩:=hE
  simp[eY] at hs;subst hs
  refine⟨_,_,_, .inl (by rw[hr,h2]),(hrel.new id vs.toArray T cs vs h1 (fun j u h=>by simpa using h)).uN o.dst ?_, .alloc hrel _⟩
  simp only[Rep]
  exact⟨_,Env.dw _ _ _,rfl⟩
 |row cs n sz=>
  obtain⟨T,vs,cap,h1,h2,h3,h4⟩:=hE
  simp[eY] at hs;subst hs
  refine⟨_,_,_, .inl (by rw[hr,h4]),(hrel.new id vs.toArray T cs vs h1 (fun j u h=>by simpa using h)).uN o.dst ?_, .alloc hrel _⟩
  simp only[Rep]
  exact⟨_,_,rfl, .inr ⟨by simpa using h2,_,Env.dw _ _ _,rfl,⟨_,_,_,yP _ _ _,by simpa using h3⟩⟩⟩
 |row0=>
  obtain⟨T,vs,h4⟩:=hE
  simp[eY] at hs;subst hs
  exact⟨_,_,β, .inl (by rw[hr,h4]),(hrel.alq _).uN o.dst (by simp only[Rep,aG];exact⟨_,rfl⟩), .alloc hrel _⟩
 |sto i off ds=>
  obtain⟨ad,vs,h1,h2,h3,h4⟩:=hE
  simp only[eY] at hs
  split at hs
  next cells hb=>
   split at hs
   next hl=>
    simp at hs;subst hs
    obtain⟨w',k1,k2,k3⟩:=hrel.store P hb h1 h2 h3 hl
    exact⟨undef,w',β, .inr ⟨by rw[hr,h4,k1];rfl,rfl⟩,k2.uN o.dst (by simp[Rep,aG]),k3⟩
   ·cases hs
  ·cases hs
 |cpy i off ds k=>
  obtain⟨ad,vs,h1,h2,h3,h4⟩:=hE
  simp only[eY] at hs
  split at hs
  next cells hb=>
   split at hs
   next hl=>
    simp at hs;subst hs
    obtain⟨w',k1,k2,k3⟩:=hrel.store P hb h1 h2 h3 hl
    exact⟨k,w',β, .inl (by rw[hr,h4,k1];rfl),k2.uN o.dst (Rep.oV k),k3⟩
   ·cases hs
  ·cases hs
 |app s sz m ds=>
  obtain⟨t,t2,ty,el,e2,i,z,oa,n,c,x,vs,hu,hu2,hi,hz,hzs,hb1,rfl,hsrc,hds,hone,hbytes,hdl,hrs,hssz,hsv,hrun⟩:=hE
  have hd2:∀ k,TypeDesc.slice e2≠ .int k:=fun k h=>by cases h
  have hvl:=hds.length
  cases s with
  |v y=>
   have hy:=hsv y rfl
   subst hy
   simp only[eY,Option.some.injEq] at hs;subst hs
   simp only[Rep,aG] at hrs
   cases hrs
   rcases Nat.lt_or_ge 0 m with hm | hm
   ·obtain⟨cap,rest,g1,g2,g3⟩:=tX (ty:=ty) (o:=none) (n:=0) (c:=0) hu hi hz hu2 hd2 hb1 hzs hsrc (by omega) hbytes (olds:=[]) (fun w' _=>by simp[Builtin.firstCells])
    refine⟨.slice (some ⟨w.heap.size,0,none⟩) (0+m) cap,w.drew.alloc (.cells (([] ++ vs).toArray ++ rest) el),β.set id (some ⟨w.heap.size,0,none⟩), .inl (by rw[hr,hrun,g3];rfl),?_,?_⟩
    ·have h1:=(hrel.yN (w':=w.drew) rfl).new id (([] ++ vs).toArray ++ rest) el ds vs (Rel.JW hds) (fun j u hj=>by
      have hlt:=(List.getElem?_eq_some_iff.1 hj).1
      simp only[List.nil_append]
      rw[Array.getElem?_append_left (by simpa using hlt)];simpa using hj)
     refine h1.uN o.dst ?_
     simp only[Rep]
     refine⟨some ⟨w.heap.size,0,none⟩,cap,by rw[Nat.zero_add], .inr ⟨by omega,_,Env.dw _ _ _,rfl,⟨_,_,_,yP _ _ _,?_⟩⟩⟩
     simp only[World.size_drew,List.nil_append,Array.size_append,List.size_toArray,g2,hvl,hdl,Nat.zero_add]
     rw[←Nat.add_mul]
     exact Nat.mul_le_mul_right _ (by omega)
    ·exact(Turn.of_heap (w:=w) (w':=w.drew) rfl rfl rfl rfl).trans (.alloc (hrel.yN (w':=w.drew) rfl) _)
   ·obtain rfl:m=0:=by omega
    have hds0:ds=[]:=List.length_eq_zero_iff.1 (by omega)
    subst hds0
    simp only[aH] at hds;subst hds
    have g:=kL (w':=w) (ty:=ty) hu hi hu2 hd2 hsrc (n:=0) (c:=0) (o:=none) (by omega) (fun a h=>by cases h) (fun _=>rfl)
    refine⟨.slice none 0 0,w,β.set id none, .inl (by rw[hr,hrun,g];rfl),?_, .refl _ _ _⟩
    have h1:=hrel.rebind (w':=w) id none (.refl _ _) hrel.top (Nat.le_refl _) (.refl _) (fun _ _ _ _ _ _=>rfl)
    have h2:=h1.setB id ⟨[].map (D.forget id),false⟩ (.inl (And.intro (Env.dw _ _ _) (by simp))) (fun _ _ _ _ _ _ h=>by rw[Env.dw] at h;cases h)
    exact h2.uN o.dst (by simp only[Rep];exact⟨none,0,rfl, .inl (by simp)⟩)
  |emp=>
   simp only[eY,Option.some.injEq] at hs;subst hs
   simp only[Rep,aG] at hrs
   obtain⟨o1,he⟩:=hrs
   cases he
   rcases Nat.lt_or_ge 0 m with hm | hm
   ·obtain⟨cap,rest,g1,g2,g3⟩:=tX (ty:=ty) (o:=some o1) (n:=0) (c:=0) hu hi hz hu2 hd2 hb1 hzs hsrc (by omega) hbytes (olds:=[]) (fun w' _=>by simp[Builtin.firstCells,loadCells,loadCellsFrom])
    refine⟨.slice (some ⟨w.heap.size,0,none⟩) (0+m) cap,w.drew.alloc (.cells (([] ++ vs).toArray ++ rest) el),β.set id (some ⟨w.heap.size,0,none⟩), .inl (by rw[hr,hrun,g3];rfl),?_,?_⟩
    ·have h1:=(hrel.yN (w':=w.drew) rfl).new id (([] ++ vs).toArray ++ rest) el ds vs (Rel.JW hds) (fun j u hj=>by
      have hlt:=(List.getElem?_eq_some_iff.1 hj).1
      simp only[List.nil_append]
      rw[Array.getElem?_append_left (by simpa using hlt)];simpa using hj)
     refine h1.uN o.dst ?_
     simp only[Rep]
     refine⟨some ⟨w.heap.size,0,none⟩,cap,by rw[Nat.zero_add], .inr ⟨by omega,_,Env.dw _ _ _,rfl,⟨_,_,_,yP _ _ _,?_⟩⟩⟩
     simp only[World.size_drew,List.nil_append,Array.size_append,List.size_toArray,g2,hvl,hdl,Nat.zero_add]
     rw[←Nat.add_mul]
     exact Nat.mul_le_mul_right _ (by omega)
    ·exact(Turn.of_heap (w:=w) (w':=w.drew) rfl rfl rfl rfl).trans (.alloc (hrel.yN (w':=w.drew) rfl) _)
   ·obtain rfl:m=0:=by omega
    have hds0:ds=[]:=List.length_eq_zero_iff.1 (by omega)
    subst hds0
    simp only[aH] at hds;subst hds
    have g:=kL (w':=w) (ty:=ty) hu hi hu2 hd2 hsrc (n:=0) (c:=0) (o:=some o1) (by omega) (fun a h=>by simp[storeCells]) (fun _=>rfl)
    refine⟨.slice (some o1) 0 0,w,β.set id none, .inl (by rw[hr,hrun,g];rfl),?_, .refl _ _ _⟩
    have h1:=hrel.rebind (w':=w) id none (.refl _ _) hrel.top (Nat.le_refl _) (.refl _) (fun _ _ _ _ _ _=>rfl)
    have h2:=h1.setB id ⟨[].map (D.forget id),false⟩ (.inl (And.intro (Env.dw _ _ _) (by simp))) (fun _ _ _ _ _ _ h=>by rw[Env.dw] at h;cases h)
    exact h2.uN o.dst (by simp only[Rep];exact⟨some o1,0,rfl, .inl (by simp)⟩)
  |sl j off n' sz'=>
   have hsz:=hssz j off n' sz' rfl
   obtain⟨sz',r'⟩:=sz'
   simp only at hsz
   subst hsz
   simp only[eY] at hs
   split at hs
   next cells hb=>
    split at hs
    next hl=>
     simp only[Option.some.injEq] at hs;subst hs
     simp only[Rep] at hrs
     obtain⟨o2,c2,he,hrs⟩:=hrs
     cases he
     have holdlen:((cells.drop off).take (n*i.size)).length=n*i.size:=by simp;omega
     have grow:∀ olds:List Value,c<n+m→aH w A β ((cells.drop off).take (n*i.size)) olds→(∀ w':World,w'.heap=w.heap→(Builtin.firstCells i.size n (.slice oa n c)).run P w'= .ok olds.toArray w')→
       ∃ u w' β',((execOp a.eval o).run P w= .ok (.value u) w'∨((execOp a.eval o).run P w= .ok .skip w'∧u=undef))∧
        Rel w' A β' base (((σ.forget j).setB j ⟨((cells.drop off).take (n*i.size) ++ ds).map (D.forget j),false⟩).put o.dst (.sl j 0 (n+m) ⟨i.size,0⟩)) (a.put o.dst u).tmps acts∧Turn A A base w w':=by
      intro olds hlt holds hfirst
      obtain⟨cap,rest,g1,g2,g3⟩:=tX (ty:=ty) hu hi hz hu2 hd2 hb1 hzs hsrc hlt hbytes hfirst
      refine⟨.slice (some ⟨w.heap.size,0,none⟩) (n+m) cap,w.drew.alloc (.cells ((olds ++ vs).toArray ++ rest) el),β.set j (some ⟨w.heap.size,0,none⟩), .inl (by rw[hr,hrun,g3];rfl),?_,?_⟩
      ·have h1:=(hrel.yN (w':=w.drew) rfl).new j ((olds ++ vs).toArray ++ rest) el ((cells.drop off).take (n*i.size) ++ ds) (olds ++ vs) (Rel.JW (holds.append hds)) (fun k u hk=>by
        have hlt2:=(List.getElem?_eq_some_iff.1 hk).1
        rw[Array.getElem?_append_left (by simpa using hlt2)];simpa using hk)
       refine h1.uN o.dst ?_
       simp only[Rep]
       refine⟨_,_,rfl, .inr ⟨by omega,_,Env.dw _ _ _,rfl,⟨_,_,_,yP _ _ _,?_⟩⟩⟩
       simp only[World.size_drew,Array.size_append,List.size_toArray,List.length_append,g2,hvl,hdl,holds.length,holdlen,Nat.zero_add]
       rw[←Nat.add_mul,←Nat.add_mul]
       exact Nat.mul_le_mul_right _ (by omega)
      ·exact(Turn.of_heap (w:=w) (w':=w.drew) rfl rfl rfl rfl).trans (.alloc (hrel.yN (w':=w.drew) rfl) _)
     rcases hrs with⟨hn0,rfl⟩ | ⟨hnr,ad,hβ,rfl,hroom⟩
     ·-- nothing was there
      obtain rfl:n=0:=by omega
      rcases Nat.lt_or_ge 0 m with hm | hm
      ·refine grow [] (by omega) (by simp[aH]) (fun w' _=>?_)
       cases oa<;>simp[Builtin.firstCells,loadCells,loadCellsFrom]
      ·obtain rfl:m=0:=by omega
       have hds0:ds=[]:=List.length_eq_zero_iff.1 (by omega)
       subst hds0
       simp only[aH] at hds;subst hds
       have g:=kL (w':=w) (ty:=ty) hu hi hu2 hd2 hsrc (n:=0) (c:=0) (o:=oa) (by omega) (fun a h=>by simp[storeCells]) (fun _=>rfl)
       refine⟨.slice oa 0 0,w,β.set j none, .inl (by rw[hr,hrun,g];rfl),?_, .refl _ _ _⟩
       have h1:=hrel.rebind (w':=w) j none (.refl _ _) hrel.top (Nat.le_refl _) (.refl _) (fun _ _ _ _ _ _=>rfl)
       have h2:=h1.setB j ⟨((cells.drop off).take (0*i.size) ++ []).map (D.forget j),false⟩ (.inl (And.intro (Env.dw _ _ _) (by simp))) (fun _ _ _ _ _ _ h=>by rw[Env.dw] at h;cases h)
       exact h2.uN o.dst (by simp only[Rep];exact⟨oa,0,rfl, .inl (by simp)⟩)
     ·rcases Nat.lt_or_ge c (n+m) with hlt | hge
      ·rcases hrel.blk j _ hb with⟨h2,_⟩ | ⟨ad',h2,h3⟩
       ·rw[hβ] at h2;cases h2
       ·rw[hβ] at h2;cases h2
        have hcells:=(h3.cells.drop h3.spot off).take rfl (n*i.size)
        obtain⟨olds,k1,k2⟩:=zG (P:=P) (w:=w) rfl hcells
        rw[holdlen] at k1
        exact grow olds hlt k2 (fun w' hw'=>by simp[Builtin.firstCells,k1 w' hw'])
      ·obtain⟨w',k1,k2,k3,k4⟩:=hrel.app P hb hβ (off:=off) (k:=n*i.size) (lim:=c*i.size) hds hone (by omega) hroom (by rw[hdl,←Nat.add_mul];exact Nat.mul_le_mul_right _ hge)
       have g:=kL (w':=w') (ty:=ty) hu hi hu2 hd2 hsrc (n:=n) (c:=c) (o:=some (aO ad off)) hge (fun a h=>by cases h;rw[Ff];exact k1) (fun h=>by cases h)
       refine⟨.slice (some (aO ad off)) (n+m) c,w',_, .inl (by rw[hr,hrun,g];rfl),k2.uN o.dst ?_,k3⟩
       simp only[Rep]
       refine⟨_,_,rfl, .inr ⟨by omega,_,Env.dw _ _ _,by simp[aO],?_⟩⟩
       simpa using k4
    ·cases hs
   ·cases hs
  |_=>simp[eY] at hs
end
def share (bk:Nat→Option fK):Nat→D→Option (D×List Nat)
 |_, .v x=>some (.v x,[])
 |_, .emp=>some (.emp,[])
 |_, .sh n cs=>some (.sh n cs,[])
 |_, .rc cs=>some (.rc cs,[])
 |k+1, .sl id off n sz=>match bk id with
  |none=>none
  |some b=>if off+n*sz≤b.cells.length then
    match aW (share bk k) ((b.cells.drop off).take (n*sz)) with
    |none=>none
    |some (cs,ids)=>some (.sh n cs,id::ids)
   else none
 |k+1, .agg cs=>match aW (share bk k) cs with
  |none=>none
  |some (ds,ids)=>some (.agg ds,ids)
 |_, .fn f []=>some (.fn f [],[])
 |_,_=>none
where
 aW (g:D→Option (D×List Nat)):List D→Option (List D×List Nat)
 |[]=>some ([],[])
 |d::ds=>match g d,aW g ds with
  |some (e,i),some (es,is)=>some (e::es,i ++ is)
  |_,_=>none
abbrev aW:=share.aW
section
variable {P:Program} {w:World} {A:Nat→Prop} {β:Env} {base:Nat} {σ:St} {tmps:Array Value} {acts:List (Array Value)}
theorem mP {A':Nat→Prop} {g:D→Option (D×List Nat)} {ok:Nat→Prop} (hg:∀ d e ids u,g d=some (e,ids)→(∀ i∈ids,ok i)→Rep w A β d u→aG w A' e u):
  ∀ (ds es:List D) (ids:List Nat) (vs:List Value),aW g ds=some (es,ids)→(∀ i∈ids,ok i)→aH w A β ds vs→dU w A' es vs
 |[],es,ids,vs,h,_,hr=>by
  simp[share.aW] at h;obtain⟨rfl,rfl⟩:=h
  simp[aH] at hr;simp[dU,hr]
 |d::ds,es,ids,vs,h,hk,hr=>by
  simp only[share.aW] at h
  split at h
  next e i es' is' h1 h2=>
   simp at h;obtain⟨rfl,rfl⟩:=h
   simp only[aH] at hr
   obtain⟨x,xs,rfl,r1,r2⟩:=hr
   simp only[dU]
   exact⟨x,xs,rfl,hg d e i x h1 (fun j hj=>hk j (by simp[hj])) r1,mP hg ds es' is' xs h2 (fun j hj=>hk j (by simp[hj])) r2⟩
  ·cases h
theorem vZ {A':Nat→Prop} {g:D→Option (D×List Nat)} {ok:Nat→Prop} (hg:∀ d e ids u,g d=some (e,ids)→(∀ i∈ids,ok i)→Rep w A β d u→aG w A' e u):
  ∀ (ds es:List D) (ids:List Nat) (ad:Addr),aW g ds=some (es,ids)→(∀ i∈ids,ok i)→bI w A β ds ad→bQ w A' es ad
 |[],es,ids,ad,h,_,hr=>by simp[share.aW] at h;obtain⟨rfl,rfl⟩:=h;simp[bQ]
 |d::ds,es,ids,ad,h,hk,hr=>by
  simp only[share.aW] at h
  split at h
  next e i es' is' h1 h2=>
   simp at h;obtain⟨rfl,rfl⟩:=h
   obtain⟨⟨u,r1,r2⟩,r3⟩:=hr
   simp only[bQ]
   exact⟨⟨u,r1,hg d e i u h1 (fun j hj=>hk j (by simp[hj])) r2⟩,vZ hg ds es' is' _ h2 (fun j hj=>hk j (by simp[hj])) r3⟩
  ·cases h
theorem ng {g:D→Option (D×List Nat)}:∀ (ds es:List D) (ids:List Nat),aW g ds=some (es,ids)→es.length=ds.length
 |[],es,ids,h=>by simp[share.aW] at h;simp[h.1.symm]
 |d::ds,es,ids,h=>by
  simp only[share.aW] at h
  split at h
  next e i es' is' h1 h2=>
   simp at h;obtain⟨rfl,rfl⟩:=h
   simp[ng ds es' is' h2]
  ·cases h
def UO (σ:St) (β:Env) (A':Nat→Prop) (id:Nat):Prop:=∀ b ad,σ.bk id=some b→β id=some ad→A' ad.block
theorem sK (hrel:Rel w A β base σ tmps acts) {A':Nat→Prop} (hA:∀ k,A k→A' k):∀ (n:Nat) (d e:D) (ids:List Nat) (u:Value),share σ.bk n d=some (e,ids)→(∀ i∈ids,UO σ β A' i)→Rep w A β d u→aG w A' e u:=by
 intro n
 induction n with
 |zero=>
  intro d e ids u h hk hr
  cases d with
  |v x=>simp only[share,Option.some.injEq,Prod.mk.injEq] at h;obtain⟨rfl,rfl⟩:=h;simp only[Rep] at hr;exact aG.mono (fun _ _=>rfl) hA _ _ hr
  |emp=>simp only[share,Option.some.injEq,Prod.mk.injEq] at h;obtain⟨rfl,rfl⟩:=h;simp only[Rep] at hr;exact aG.mono (fun _ _=>rfl) hA _ _ hr
  |rc cs=>simp only[share,Option.some.injEq,Prod.mk.injEq] at h;obtain⟨rfl,rfl⟩:=h;simp only[Rep] at hr;exact aG.mono (fun _ _=>rfl) hA _ _ hr
  |sh m cs=>simp only[share,Option.some.injEq,Prod.mk.injEq] at h;obtain⟨rfl,rfl⟩:=h;simp only[Rep] at hr;exact aG.mono (fun _ _=>rfl) hA _ _ hr
  |fn f cs=>
   cases cs with
   |nil=>simp only[share,Option.some.injEq,Prod.mk.injEq] at h;obtain⟨rfl,rfl⟩:=h;simp only[Rep,aH] at hr;obtain⟨vs,rfl,rfl⟩:=hr;simp only[aG,dU];exact⟨[],rfl,rfl⟩
   |cons _ _=>simp[share] at h
  |_=>simp[share] at h
 |succ n ih=>
  intro d e ids u h hk hr
  cases d with
  |v x=>simp only[share,Option.some.injEq,Prod.mk.injEq] at h;obtain⟨rfl,rfl⟩:=h;simp only[Rep] at hr;exact aG.mono (fun _ _=>rfl) hA _ _ hr
  |emp=>simp only[share,Option.some.injEq,Prod.mk.injEq] at h;obtain⟨rfl,rfl⟩:=h;simp only[Rep] at hr;exact aG.mono (fun _ _=>rfl) hA _ _ hr
  |rc cs=>simp only[share,Option.some.injEq,Prod.mk.injEq] at h;obtain⟨rfl,rfl⟩:=h;simp only[Rep] at hr;exact aG.mono (fun _ _=>rfl) hA _ _ hr
  |sh m cs=>simp only[share,Option.some.injEq,Prod.mk.injEq] at h;obtain⟨rfl,rfl⟩:=h;simp only[Rep] at hr;exact aG.mono (fun _ _=>rfl) hA _ _ hr
  |fn f cs=>
   cases cs with
   |nil=>simp only[share,Option.some.injEq,Prod.mk.injEq] at h;obtain⟨rfl,rfl⟩:=h;simp only[Rep,aH] at hr;obtain⟨vs,rfl,rfl⟩:=hr;simp only[aG,dU];exact⟨[],rfl,rfl⟩
   |cons _ _=>simp[share] at h
  |agg cs=>
   simp only[share] at h
   split at h
   ·cases h
   next ds is h1=>
    simp at h;obtain⟨rfl,rfl⟩:=h
    simp only[Rep] at hr
    obtain⟨vs,rfl,hr⟩:=hr
    simp only[aG]
    exact⟨vs,rfl,mP (fun d e ids u h1 h2 h3=>ih d e ids u h1 h2 h3) cs ds is vs h1 hk hr⟩
  |sl id off m sz=>
   simp only[share] at h
   split at h
   ·cases h
   next b hb=>
    split at h
    next hl=>
     split at h
     ·cases h
     next cs is h1=>
      simp at h;obtain⟨rfl,rfl⟩:=h
      simp only[Rep] at hr
      obtain⟨o,c,rfl,hr⟩:=hr
      have hcl:=ng _ _ _ h1
      simp only[aG]
      rcases hr with⟨hm0,rfl⟩ | ⟨hmr,ad,hβ,rfl,hroom⟩
      ·obtain rfl:m=0:=by omega
       have:cs=[]:=List.length_eq_zero_iff.1 (by rw[hcl];simp)
       subst this
       exact⟨o,0,rfl,Nat.le_refl _,by simp,by simp[bQ]⟩
      ·refine⟨_,c,rfl,by omega,fun _=>⟨aO ad off,rfl,rfl,hk id (by simp) b ad hb hβ⟩,?_⟩
       rcases hrel.blk id b hb with⟨h2,_⟩ | ⟨ad',h2,h3⟩
       ·rw[hβ] at h2;cases h2
       ·rw[hβ] at h2;cases h2
        exact vZ (fun d e ids u h1 h2 h3=>ih d e ids u h1 h2 h3) _ _ _ _ h1 (fun i hi=>hk i (by simp[hi])) ((h3.cells.drop h3.spot off).take rfl _)
    ·cases h
  |_=>simp[share] at h
end
mutual
def eH (w:World) (A:Nat→Prop):D→Value→List (Option Addr)→Prop
 | .ow n sz cs,u,bl=>∃ o c,u= .slice o n c∧((n=0∧c=0∧cs=[]∧bl=[none])∨
   (n≤c∧∃ ad,o=some ad∧ad.spot=none∧bl=[some ad]∧(∃ cc T,w.heap[ad.block]? =some (.cells cc T (0,0))∧ad.off+c*sz≤cc.size∧ad.off≤cc.size)∧bQ w A cs ad))
 | .oc cs,u,bl=>∃ o c,u= .slice o (af cs) c∧((af cs=0∧c=0∧aC cs=[]∧bl=[none])∨
   (af cs≤c∧∃ ad,o=some ad∧ad.spot=none∧bl=[some ad]∧(∃ cc T,w.heap[ad.block]? =some (.cells cc T (0,0))∧ad.off+c*cs.length≤cc.size∧ad.off≤cc.size)∧bQ w A (aC cs) ad))
 | .agg cs,u,bl=>∃ vs:List Value,u= .agg vs.toArray∧jy w A cs vs bl
 | .aS cs,u,bl=>∃ vs:List Value,u= .tuple vs.toArray∧jy w A cs vs bl
 |d,u,bl=>aG w A d u∧bl=[]
def jy (w:World) (A:Nat→Prop):List D→List Value→List (Option Addr)→Prop
 |[],vs,bl=>vs=[]∧bl=[]
 |d::ds,vs,bl=>∃ x xs b1 b2,vs=x::xs∧bl=b1 ++ b2∧eH w A d x b1∧jy w A ds xs b2
end
structure Vb (w':World) (A':Nat→Prop) (B:Nat) (bl:List (Option Addr)):Prop where
 each:∀ ad,some ad∈bl→B≤ad.block∧ad.block<w'.heap.size∧¬ A' ad.block
 apart:bl.Pairwise fun x y=>∀ a b,x=some a→y=some b→a.block≠b.block
def CallsD (P:Program) (f:FuncId) (args:List D) (res:D):Prop:=
 ∀ (w:World) (A:Nat→Prop) (vs:List Value),dU w A args vs→(∀ k,A k→k<w.heap.size)→A7 w A→
  Calls P f vs.toArray w fun e w'=>∃ v A' bl,e= .returned v∧eH w' A' res v bl∧Vb w' A' w.heap.size bl∧(∀ k,A k→A' k)∧(∀ k,A' k→k<w'.heap.size)∧(∀ k,A' k→k<w.heap.size→A k)∧Below w.heap.size w w'
mutual
def flat:D→Bool
 | .v _=>true
 | .sh n cs=>n ==0 && cs.isEmpty
 | .ow _ _ cs=>lC cs
 | .oc _=>true
 | .agg cs=>lC cs
 | .aS cs=>lC cs
 |_=>false
def lC:List D→Bool
 |[]=>true
 |d::ds=>flat d && lC ds
end
mutual
theorem BU {w:World} {A A':Nat→Prop}:∀ (d:D) (u:Value),flat d=true→aG w A d u→aG w A' d u
 | .v _,_,_,h=>by simpa [aG] using h
 | .sh n cs,u,hf,h=>by
  simp[flat] at hf
  obtain⟨rfl,rfl⟩:=hf
  simp only[aG] at h ⊢
  obtain⟨o,c,rfl,h1,_,_⟩:=h
  exact⟨o,c,rfl,h1,by simp,by simp[bQ]⟩
 | .ow _ _ _,_,_,h=>by simp[aG] at h
 | .oc _,_,_,h=>by simp[aG] at h
 | .rc _,_,hf,_=>by simp[flat] at hf
 | .pel _ _ _ _,_,hf,_=>by simp[flat] at hf
 | .agg cs,u,hf,h=>by
  simp only[aG] at h ⊢;simp only[flat] at hf
  obtain⟨vs,rfl,h⟩:=h
  exact⟨vs,rfl,DZ cs vs hf h⟩
 | .aS cs,u,hf,h=>by
  simp only[aG] at h ⊢;simp only[flat] at hf
  obtain⟨vs,rfl,h⟩:=h
  exact⟨vs,rfl,DZ cs vs hf h⟩
 | .undef,_,hf,_=>by simp[flat] at hf
 | .sl _ _ _ _,_,hf,_=>by simp[flat] at hf
 | .ptr _ _,_,hf,_=>by simp[flat] at hf
 | .shp _ _,_,hf,_=>by simp[flat] at hf
 | .fn _ _,_,hf,_=>by simp[flat] at hf
theorem DZ {w:World} {A A':Nat→Prop}:∀ (ds:List D) (vs:List Value),lC ds=true→dU w A ds vs→dU w A' ds vs
 |[],_,_,h=>by simpa [dU] using h
 |d::ds,vs,hf,h=>by
  simp only[lC,Bool.and_eq_true] at hf
  simp only[dU] at h ⊢
  obtain⟨x,xs,rfl,h1,h2⟩:=h
  exact⟨x,xs,rfl,BU d x hf.1 h1,DZ ds xs hf.2 h2⟩
end
theorem Ji {w:World} {A A':Nat→Prop}:∀ (ds:List D) (ad:Addr),lC ds=true→bQ w A ds ad→bQ w A' ds ad
 |[],_,_,_=>by simp[bQ]
 |d::ds,ad,hf,h=>by
  simp only[lC,Bool.and_eq_true] at hf
  simp only[bQ] at h ⊢
  obtain⟨⟨u,h1,h2⟩,h3⟩:=h
  exact⟨⟨u,h1,BU d u hf.1 h2⟩,Ji ds _ hf.2 h3⟩
theorem MK:∀ (xs ys:List D),lC (xs ++ ys)=(lC xs && lC ys)
 |[],ys=>by simp[lC]
 |x::xs,ys=>by simp[lC,MK xs ys,Bool.and_assoc]
theorem EM (i:Nat):∀ cs:List ay,lC ((cs.map ay.up).map (Col.cell i))=true
 |[]=>rfl
 |c::cs=>by simp only[List.map_cons,lC,EM i cs,Bool.and_true];cases c<;>rfl
theorem KR (cs:List ay):lC (aC cs)=true:=by
 unfold aC jh
 generalize rowLen _=n
 induction n with
 |zero=>simp[lC]
 |succ n ih=>rw[List.range_succ,List.flatMap_append,MK,ih];simp only[List.flatMap_cons,List.flatMap_nil,List.append_nil,EM,Bool.and_self]
mutual
theorem Ol {w:World} {A A':Nat→Prop}:∀ (d:D) (u:Value) (bl:List (Option Addr)),flat d=true→eH w A d u bl→eH w A' d u bl
 | .ow n sz cs,u,bl,hf,h=>by
  simp only[flat] at hf
  simp only[eH] at h ⊢
  obtain⟨o,c,rfl,h⟩:=h
  refine⟨o,c,rfl,h.imp id ?_⟩
  rintro⟨h1,ad,h2,h3,h4,h5,h6⟩
  exact⟨h1,ad,h2,h3,h4,h5,Ji cs ad hf h6⟩
 | .oc cs,u,bl,hf,h=>by
  simp only[eH] at h ⊢
  obtain⟨o,c,rfl,h⟩:=h
  refine⟨o,c,rfl,h.imp id ?_⟩
  rintro⟨h1,ad,h2,h3,h4,h5,h6⟩
  exact⟨h1,ad,h2,h3,h4,h5,Ji _ ad (KR cs) h6⟩
 | .rc _,_,_,hf,_=>by simp[flat] at hf
 | .pel _ _ _ _,_,_,hf,_=>by simp[flat] at hf
 | .agg cs,u,bl,hf,h=>by
  simp only[flat] at hf
  simp only[eH] at h ⊢
  obtain⟨vs,rfl,h⟩:=h
  exact⟨vs,rfl,zy cs vs bl hf h⟩
 | .aS cs,u,bl,hf,h=>by
  simp only[flat] at hf
  simp only[eH] at h ⊢
  obtain⟨vs,rfl,h⟩:=h
  exact⟨vs,rfl,zy cs vs bl hf h⟩
 | .v x,u,bl,hf,h=>by simp only[eH] at h ⊢;exact⟨BU _ _ hf h.1,h.2⟩
 | .sh n cs,u,bl,hf,h=>by simp only[eH] at h ⊢;exact⟨BU _ _ hf h.1,h.2⟩
 | .undef,_,_,hf,_=>by simp[flat] at hf
 | .sl _ _ _ _,_,_,hf,_=>by simp[flat] at hf
 | .ptr _ _,_,_,hf,_=>by simp[flat] at hf
 | .shp _ _,_,_,hf,_=>by simp[flat] at hf
 | .fn _ _,_,_,hf,_=>by simp[flat] at hf
theorem zy {w:World} {A A':Nat→Prop}:∀ (ds:List D) (vs:List Value) (bl:List (Option Addr)),lC ds=true→jy w A ds vs bl→jy w A' ds vs bl
 |[],_,_,_,h=>by simpa [jy] using h
 |d::ds,vs,bl,hf,h=>by
  simp only[lC,Bool.and_eq_true] at hf
  simp only[jy] at h ⊢
  obtain⟨x,xs,b1,b2,rfl,rfl,h1,h2⟩:=h
  exact⟨x,xs,b1,b2,rfl,rfl,Ol d x b1 hf.1 h1,zy ds xs b2 hf.2 h2⟩
end
mutual
def thaw (id:Nat):D→D×List (List D)
 | .ow n sz cs=>(.sl id 0 n ⟨sz,0⟩,[cs])
 | .oc cs=>(.sl id 0 (af cs) ⟨cs.length,0⟩,[aC cs])
 | .agg cs=>(.agg (pq id cs).1,(pq id cs).2)
 | .aS cs=>(.aS (pq id cs).1,(pq id cs).2)
 |d=>(d,[])
def pq (id:Nat):List D→List D×List (List D)
 |[]=>([],[])
 |d::ds=>((thaw id d).1::(pq (id+(thaw id d).2.length) ds).1,(thaw id d).2 ++ (pq (id+(thaw id d).2.length) ds).2)
end
def lS (σ:St) (id:Nat):List (List D)→St
 |[]=>σ
 |c::cs=>lS ((σ.forget id).setB id ⟨c,false⟩) (id+1) cs
def amW (w:World) (A:Nat→Prop) (c:List D) (oa:Option Addr):Prop:=
 (oa=none∧c=[])∨∃ ad,oa=some ad∧ad.spot=none∧(∃ cc T,w.heap[ad.block]? =some (.cells cc T (0,0))∧ad.off≤cc.size)∧bQ w A c ad
inductive FP (w:World) (A:Nat→Prop):List (List D)→List (Option Addr)→Prop
 |nil:FP w A [] []
 |cons {c:List D} {oa:Option Addr} {cs:List (List D)} {bl:List (Option Addr)}:amW w A c oa→FP w A cs bl→FP w A (c::cs) (oa::bl)
theorem FP.append {w:World} {A:Nat→Prop}:∀ {cs ds:List (List D)} {bl bm:List (Option Addr)},FP w A cs bl→FP w A ds bm→FP w A (cs ++ ds) (bl ++ bm)
 |_,_,_,_, .nil,k=>k
 |_,_,_,_, .cons h t,k=> .cons h (t.append k)
theorem FP.length {w:World} {A:Nat→Prop}:∀ {cs:List (List D)} {bl:List (Option Addr)},FP w A cs bl→cs.length=bl.length
 |_,_, .nil=>rfl
 |_,_, .cons _ t=>by simp[t.length]
mutual
theorem NT {w:World} {A:Nat→Prop}:∀ (d:D) (u:Value) (bl:List (Option Addr)) (id:Nat),eH w A d u bl→FP w A (thaw id d).2 bl∧∀ β':Env,(∀ k oa,bl[k]? =some oa→β' (id+k)=oa)→Rep w A β' (thaw id d).1 u
 | .ow n sz cs,u,bl,id,h=>by
  simp only[eH] at h
  obtain⟨o,c,rfl,h⟩:=h
  simp only[thaw]
  rcases h with⟨rfl,rfl,rfl,rfl⟩ | ⟨h1,ad,rfl,h3,rfl,⟨cc,T,h4,h5,h6⟩,h7⟩
  ·exact⟨.cons (.inl ⟨rfl,rfl⟩) .nil,fun β' _=>by simp only[Rep];exact⟨o,0,rfl, .inl (by simp)⟩⟩
  ·refine⟨.cons (.inr ⟨ad,rfl,h3,⟨cc,T,h4,h6⟩,h7⟩) .nil,fun β' hβ=>?_⟩
   have:=hβ 0 (some ad) (by simp)
   simp only[Rep]
   exact⟨_,c,rfl, .inr ⟨by simpa using h1,ad,by simpa using this,by cases ad;simp at h3;simp[aO,h3],⟨cc,T,(0,0),h4,by simpa using h5⟩⟩⟩
 | .oc cs,u,bl,id,h=>by
  simp only[eH] at h
  obtain⟨o,c,rfl,h⟩:=h
  simp only[thaw]
  rcases h with⟨h1,rfl,h2,rfl⟩ | ⟨h1,ad,rfl,h3,rfl,⟨cc,T,h4,h5,h6⟩,h7⟩
  ·exact⟨.cons (.inl ⟨rfl,h2⟩) .nil,fun β' _=>by simp only[Rep];exact⟨o,0,rfl, .inl (by simp[h1])⟩⟩
  ·refine⟨.cons (.inr ⟨ad,rfl,h3,⟨cc,T,h4,h6⟩,h7⟩) .nil,fun β' hβ=>?_⟩
   have:=hβ 0 (some ad) (by simp)
   simp only[Rep]
   exact⟨_,c,rfl, .inr ⟨by simpa using h1,ad,by simpa using this,by cases ad;simp at h3;simp[aO,h3],⟨cc,T,(0,0),h4,by simpa using h5⟩⟩⟩
 | .agg cs,u,bl,id,h=>by
  simp only[eH] at h
  obtain⟨vs,rfl,h⟩:=h
  have:=zM cs vs bl id h
  simp only[thaw]
  exact⟨this.1,fun β' hβ=>by simp only[Rep];exact⟨vs,rfl,this.2 β' hβ⟩⟩
 | .aS cs,u,bl,id,h=>by
  simp only[eH] at h
  obtain⟨vs,rfl,h⟩:=h
  have:=zM cs vs bl id h
  simp only[thaw]
  exact⟨this.1,fun β' hβ=>by simp only[Rep];exact⟨vs,rfl,this.2 β' hβ⟩⟩
 | .undef,u,bl,id,h=>by simp only[eH] at h;obtain⟨h1,rfl⟩:=h;exact⟨by simp only[thaw];exact .nil,fun β' _=>by simp only[thaw];exact aG.rep _ _ h1⟩
 | .v x,u,bl,id,h=>by simp only[eH] at h;obtain⟨h1,rfl⟩:=h;exact⟨by simp only[thaw];exact .nil,fun β' _=>by simp only[thaw];exact aG.rep _ _ h1⟩
 | .sh n cs,u,bl,id,h=>by simp only[eH] at h;obtain⟨h1,rfl⟩:=h;exact⟨by simp only[thaw];exact .nil,fun β' _=>by simp only[thaw];exact aG.rep _ _ h1⟩
 | .sl a b c e,u,bl,id,h=>by simp only[eH] at h;obtain⟨h1,rfl⟩:=h;exact⟨by simp only[thaw];exact .nil,fun β' _=>by simp only[thaw];exact aG.rep _ _ h1⟩
 | .ptr a b,u,bl,id,h=>by simp only[eH] at h;obtain⟨h1,rfl⟩:=h;exact⟨by simp only[thaw];exact .nil,fun β' _=>by simp only[thaw];exact aG.rep _ _ h1⟩
 | .emp,u,bl,id,h=>by simp only[eH] at h;obtain⟨h1,rfl⟩:=h;exact⟨by simp only[thaw];exact .nil,fun β' _=>by simp only[thaw];exact aG.rep _ _ h1⟩
 | .rc a,u,bl,id,h=>by simp only[eH] at h;obtain⟨h1,rfl⟩:=h;exact⟨by simp only[thaw];exact .nil,fun β' _=>by simp only[thaw];exact aG.rep _ _ h1⟩
 | .pel a b c d,u,bl,id,h=>by simp only[eH] at h;obtain⟨h1,rfl⟩:=h;exact⟨by simp only[thaw];exact .nil,fun β' _=>by simp only[thaw];exact aG.rep _ _ h1⟩
 | .shp a b,u,bl,id,h=>by simp only[eH] at h;obtain⟨h1,rfl⟩:=h;exact⟨by simp only[thaw];exact .nil,fun β' _=>by simp only[thaw];exact aG.rep _ _ h1⟩
 | .fn a b,u,bl,id,h=>by simp only[eH] at h;obtain⟨h1,rfl⟩:=h;exact⟨by simp only[thaw];exact .nil,fun β' _=>by simp only[thaw];exact aG.rep _ _ h1⟩
theorem zM {w:World} {A:Nat→Prop}:∀ (ds:List D) (vs:List Value) (bl:List (Option Addr)) (id:Nat),jy w A ds vs bl→FP w A (pq id ds).2 bl∧∀ β':Env,(∀ k oa,bl[k]? =some oa→β' (id+k)=oa)→aH w A β' (pq id ds).1 vs
 |[],vs,bl,id,h=>by
  simp only[jy] at h;obtain⟨rfl,rfl⟩:=h
  exact⟨by simp only[pq];exact .nil,fun _ _=>by simp[pq,aH]⟩
 |d::ds,vs,bl,id,h=>by
  simp only[jy] at h
  obtain⟨x,xs,b1,b2,rfl,rfl,h1,h2⟩:=h
  obtain⟨k1,k2⟩:=NT d x b1 id h1
  obtain⟨k3,k4⟩:=zM ds xs b2 (id+(thaw id d).2.length) h2
  simp only[pq]
  refine⟨k1.append k3,fun β' hβ=>?_⟩
  simp only[aH]
  refine⟨x,xs,rfl,k2 β' (fun k oa hk=>hβ k oa ?_),k4 β' (fun k oa hk=>?_)⟩
  ·rw[List.getElem?_append_left (List.getElem?_eq_some_iff.1 hk).1];exact hk
  ·have:=hβ (b1.length+k) oa (by rw[List.getElem?_append_right (by omega)];simpa using hk)
   rw[k1.length,Nat.add_assoc];exact this
end
section
variable {P:Program} {w:World} {A:Nat→Prop} {base:Nat} {tmps:Array Value} {acts:List (Array Value)}
theorem wH:∀ (bs:List (List D)) (bl:List (Option Addr)) (σ:St) (β:Env) (id:Nat),Rel w A β base σ tmps acts→FP w A bs bl→
  (∀ ad,some ad∈bl→base≤ad.block∧¬ A ad.block∧∀ i a,σ.bk i≠none→β i=some a→a.block≠ad.block)→
  (bl.Pairwise fun x y=>∀ a b,x=some a→y=some b→a.block≠b.block)→
  ∃ β',Rel w A β' base (lS σ id bs) tmps acts∧(∀ k oa,bl[k]? =some oa→β' (id+k)=oa)∧∀ i,i<id→β' i=β i
 |[],bl,σ,β,id,h,hb,_,_=>by
  cases hb
  exact⟨β,h,fun k oa hk=>by simp at hk,fun _ _=>rfl⟩
 |c::cs,_,σ,β,id,h,hb,hfree,hpw=>by
  cases hb with
  |@cons _ oa _ bl h1 h2=>
  rw[List.pairwise_cons] at hpw
  have hr:=h.rebind (w':=w) id oa (.refl _ _) h.top (Nat.le_refl _) (.refl _) (fun _ _ _ _ _ _=>rfl)
  have hlive:∀ i a,i≠id→(σ.forget id).bk i≠none→(β.set id oa) i=some a→σ.bk i≠none∧β i=some a:=by
   intro i a hi hbk ha
   rw[Env.dX _ _ hi] at ha
   simp only[St.forget,if_neg hi] at hbk
   exact⟨fun e=>hbk (by simp[e]),ha⟩
  have hs:Rel w A (β.set id oa) base ((σ.forget id).setB id ⟨c,false⟩) tmps acts:=by
   refine hr.setB id _ ?_ ?_
   ·rcases h1 with⟨rfl,rfl⟩ | ⟨ad,rfl,h3,⟨cc,T,h4,h5⟩,h6⟩
    ·exact .inl (And.intro (Env.dw _ _ _) rfl)
    ·obtain⟨f1,f2,_⟩:=hfree ad (by simp)
     exact .inr ⟨ad,Env.dw _ _ _,⟨h3,f1,⟨cc,T,h4⟩,bQ.xQ (fun d u h=>aG.rep d u h) h6,fun _=>f2,fun e=>(by cases e),fun c1 T1 h7=>by rw[h4] at h7;cases h7;exact h5⟩⟩
   ·intro i a ad hi hbk ha had
    rw[Env.dw] at had
    subst had
    obtain⟨g1,g2⟩:=hlive i a hi hbk ha
    exact(hfree ad (by simp)).2.2 i a g1 g2
  obtain⟨β',k1,k2,k3⟩:=wH cs bl _ _ (id+1) hs h2 (fun ad had=>by
   obtain⟨f1,f2,f3⟩:=hfree ad (by simp[had])
   refine⟨f1,f2,fun i a hbk ha=>?_⟩
   by_cases hi:i=id
   ·subst hi
    rw[Env.dw] at ha
    exact hpw.1 (some ad) had a ad ha rfl
   ·obtain⟨g1,g2⟩:=hlive i a hi (by simpa [St.setB,hi] using hbk) ha
    exact f3 i a g1 g2) hpw.2
  refine⟨β',k1,fun k oa' hk=>?_,fun i hi=>?_⟩
  ·cases k with
   |zero=>simp at hk;subst hk;rw[Nat.add_zero,k3 id (by omega),Env.dw]
   |succ k=>rw[←Nat.add_assoc,Nat.add_right_comm];exact k2 k oa' (by simpa using hk)
  ·rw[k3 i (by omega),Env.dX _ _ (by omega)]
end
def St.gB (σ:St) (ids:List Nat):St:={ σ with bk:=fun i=>if i∈ids then(σ.bk i).map fun b=>{ b with ro:=true } else σ.bk i }
section
variable {P:Program} {w:World} {A:Nat→Prop} {β:Env} {base:Nat} {σ:St} {tmps:Array Value} {acts:List (Array Value)}
theorem Rel.gB (h:Rel w A β base σ tmps acts) (ids:List Nat) {A':Nat→Prop} (hA:∀ k,A k→A' k) (low:∀ k,A' k→k<w.heap.size)
  (hin:∀ i∈ids,UO σ β A' i) (hout:∀ i b ad,i∉ids→σ.bk i=some b→β i=some ad→A' ad.block→A ad.block) (hlp:iZ w A' β base σ.loop acts):Rel w A' β base (σ.gB ids) tmps acts where
 fr:=h.fr.mono (.refl _ _) hA (fun _ _ _=>rfl)
 stk:=h.stk.mono (.refl _ _) hA (fun _ _ _ _ _=>rfl)
 blk:=fun i b hb=>by
  simp only[St.gB] at hb
  split at hb
  next hi=>
   simp only[Option.map_eq_some_iff] at hb
   obtain⟨b0,hb0,rfl⟩:=hb
   rcases h.blk i b0 hb0 with⟨h1,h2⟩ | ⟨ad,h1,h2⟩
   ·exact .inl ⟨h1,h2⟩
   ·exact .inr ⟨ad,h1,⟨h2.spot,h2.base,h2.obj,bI.mono (.refl _ _) hA _ _ rfl (fun _ _=>rfl) h2.cells,(fun e=>by cases e),fun _=>hin i hi b0 ad hb0 h1,h2.inside⟩⟩
  next hi=>
   rcases h.blk i b hb with⟨h1,h2⟩ | ⟨ad,h1,h2⟩
   ·exact .inl ⟨h1,h2⟩
   ·exact .inr ⟨ad,h1,⟨h2.spot,h2.base,h2.obj,bI.mono (.refl _ _) hA _ _ rfl (fun _ _=>rfl) h2.cells,fun hr ha=>h2.own hr (hout i b ad hi hb h1 ha),fun hr=>hA _ (h2.shared hr),h2.inside⟩⟩
 inj:=fun i j a b hi hj=>h.inj i j a b (fun e=>hi (by simp only[St.gB];split<;>simp[e])) (fun e=>hj (by simp only[St.gB];split<;>simp[e]))
 low:=low
 top:=h.top
 glo:=h.glo.grow hA
 lp:=hlp
end
def depth:Nat:=12
def adZ (F:FuncId→List D→D→Prop) (σ:St) (dst:Option Tmp) (id:Nat) (f:FuncId) (args:List D) (σ':St):Prop:=
 ∃ as passed res,aW (share σ.bk depth) args=some (as,passed)∧F f as res∧σ'=(lS (if flat res then σ else σ.gB passed) id (thaw id res).2).put dst (thaw id res).1
section
variable {P:Program} {w:World} {A:Nat→Prop} {β:Env} {base:Nat} {σ:St} {a:Act} {acts:List (Array Value)}
theorem VR {F:FuncId→List D→D→Prop} (hF:∀ f as res,F f as res→CallsD P f as res) (hrel:Rel w A β base σ a.tmps acts) {dst:Option Tmp} {id:Nat} {f:FuncId} {args:List D} {vs:List Value}
    (hargs:aH w A β args vs) {σ':St} (h:adZ F σ dst id f args σ'):
    Calls P f vs.toArray w fun e w'=>∃ v A' β',e= .returned v∧Rel w' A' β' base σ' (a.put dst v).tmps acts∧Turn A A' base w w':=by
  obtain⟨as,passed,res,hsh,hres,rfl⟩:=h
  · ·
      let A1:Nat→Prop:=fun k=>A k∨∃ i∈passed,∃ b ad,σ.bk i=some b∧β i=some ad∧ad.block=k
      have hA1:∀ k,A k→A1 k:=fun k h=> .inl h
      have hlow1:∀ k,A1 k→k<w.heap.size:=by
        rintro k (hk | ⟨i,_,b,ad,hb,ha,rfl⟩)
        · exact hrel.low k hk
        · exact vP hrel hb ha
      have has:dU w A1 as vs:=mP (ok:=fun i=>UO σ β A1 i) (fun d e ids u h1 h2 h3=>sK hrel hA1 depth d e ids u h1 h2 h3) args as passed vs hsh
        (fun i hi b ad hb ha=> .inr ⟨i,hi,b,ad,hb,ha,rfl⟩) hargs
      refine(hF f as res hres w A1 vs has hlow1 (hrel.glo.grow hA1)).mono ?_
      rintro e w' ⟨v,A',bl,rfl,hO,hfresh,hA',hlow',hold,hbelow⟩
      have hx:Ext A w w':=⟨fun k hk=>hbelow.block k (hrel.low k hk),fun b m ⟨c,T,fz,h1,h2⟩=>⟨c,T,fz,by
        have:b<w.heap.size:=by
          rcases Nat.lt_or_ge b w.heap.size with h | h
          · exact h
          · rw[Array.getElem?_eq_none h] at h1;cases h1
        rw[hbelow.block b this];exact h1,h2⟩⟩
      have hcar:Rel w' A β base σ a.tmps acts:=hrel.carry hx (fun _ h=>h) (fun k hk=>Nat.lt_of_lt_of_le (hrel.low k hk) hbelow.size) (Nat.le_trans hrel.top hbelow.size) (fun _ _ _=>rfl) (fun _ _ _ _ _=>rfl)
        (fun i b hb=>⟨rfl,fun _ _=>rfl,fun ad ha=>⟨hbelow.block _ (vP hrel hb ha),fun h=>h⟩⟩) (hrel.lp.mono (.below hbelow) (.refl _ _) (fun _=>rfl))
      have hblk:∀ i b ad,σ.bk i=some b→β i=some ad→ad.block<w.heap.size:=fun i b ad hb ha=>vP hrel hb ha
      have hfin:∃ A2,Rel w' A2 β base (if flat res then σ else σ.gB passed) a.tmps acts∧eH w' A2 res v bl∧(∀ k,A k→A2 k)∧(∀ ad,some ad∈bl→¬ A2 ad.block)∧(∀ k,A2 k→k<base→A k)∧New A A2 w:=by
        by_cases hfl:flat res=true
        · rw[if_pos hfl]
          exact⟨A,hcar,Ol res v bl hfl hO,fun _ h=>h,fun ad had ha=>(hfresh.each ad had).2.2 (hA' _ (hA1 _ ha)),fun _ h _=>h, .refl _ _⟩
        · rw[if_neg hfl]
          have hnew:New A A' w:=by
            intro k o hk ho ha
            rcases hold k ha (Array.getElem?_eq_some_iff.1 hk).1 with h1 | ⟨j,hj,b',ad',hb',ha',rfl⟩
            · exact h1
            · rcases hrel.blk j b' hb' with⟨q1,_⟩ | ⟨a3,q1,q2⟩
              · rw[ha'] at q1;cases q1
              · rw[ha'] at q1;cases q1
                obtain⟨c,T,hobj⟩:=q2.obj
                rw[hobj] at hk;cases hk;cases ho
          refine⟨A',?_,hO,fun k hk=>hA' k (hA1 k hk),fun ad had=>(hfresh.each ad had).2.2,?_,hnew⟩
          refine hcar.gB passed (fun k hk=>hA' k (hA1 k hk)) hlow' ?_ ?_ (hrel.lp.mono (.below hbelow) hnew (fun _=>rfl))
          · intro i hi b ad hb ha
            exact hA' _ (.inr ⟨i,hi,b,ad,hb,ha,rfl⟩)
          · intro i b ad hi hb ha hin
            rcases hold _ hin (hblk i b ad hb ha) with h1 | ⟨j,hj,b',ad',hb',ha',he⟩
            · exact h1
            · exact absurd (hrel.inj j i ad' ad (by simp[hb']) (by simp[hb]) ha' ha he▸hj) hi
          · intro k hk hlt
            rcases hold k hk (Nat.lt_of_lt_of_le hlt hrel.top) with h1 | ⟨j,hj,b',ad',hb',ha',rfl⟩
            · exact h1
            · rcases hrel.blk j b' hb' with⟨q1,_⟩ | ⟨a3,q1,q2⟩
              · rw[ha'] at q1;cases q1
              · rw[ha'] at q1;cases q1
                have:=q2.base
                omega
      obtain⟨A2,hr2,hO2,hA2,hne,hold2,hnew2⟩:=hfin
      obtain⟨t1,t2⟩:=NT res v bl id hO2
      have hbk2:∀ i,(if flat res then σ else σ.gB passed).bk i≠none→σ.bk i≠none:=by
        intro i h e
        apply h
        split
        · exact e
        · simp only[St.gB];split<;>simp[e]
      obtain⟨β',k1,k2,k3⟩:=wH _ bl _ β id hr2 t1 (fun ad had=>by
        obtain⟨f1,f2,f3⟩:=hfresh.each ad had
        refine⟨Nat.le_trans hrel.top f1,hne ad had,fun i a2 hbk ha=>?_⟩
        obtain⟨b,hb⟩:=Option.ne_none_iff_exists'.1 (hbk2 i hbk)
        have:=hblk i b a2 hb ha
        omega) hfresh.apart
      exact⟨v,A2,β',rfl,k1.uN dst (t2 β' k2),⟨hx,hA2,hbelow.mono hrel.top,hold2, .strict (.below hbelow) hnew2⟩⟩
end
structure Unused (id:Nat) (σ:St):Prop where
 fr:∀ t,(σ.fr.tm t).has id=false
 stk:∀ f∈σ.stk,∀ t,(f.tm t).has id=false
 no:σ.bk id=none
 bk:∀ i b,σ.bk i=some b→D.dm id b.cells=false
 lp:id=eu→σ.loop=none
def St.je (σ:St) (id:Nat):St:={ σ with bk:=fun i=>if i=id then none else σ.bk i }
section
variable {P:Program} {w:World} {A:Nat→Prop} {β:Env} {base:Nat} {σ:St} {acts:List (Array Value)}
theorem Rel.rename {tmps:Array Value} (h:Rel w A β base σ tmps acts) {i z:Nat} {b:fK} (hb:σ.bk i=some b) (hz:Unused z σ):
  Rel w A (β.set z (β i)) base ((σ.je i).setB z b) tmps acts:=by
 have hiz:i≠z:=fun e=>by rw[e,hz.no] at hb;cases hb
 have h1:Rel w A (β.set z (β i)) base σ tmps acts:=by
  refine h.carry (.refl _ _) (fun _ h=>h) h.low h.top ?_ ?_ ?_ (h.lp.mono (fun _ _ h _=>h) (fun _ _ _ _ h=>h) fun hne=>Env.dX _ _ fun e=>hne (hz.lp e.symm))
  ·intro t j hj
   exact Env.dX _ _ fun e=>by rw[e,hz.fr t] at hj;cases hj
  ·intro f hf t j hj
   exact Env.dX _ _ fun e=>by rw[e,hz.stk f hf t] at hj;cases hj
  ·intro j c hj
   refine⟨Env.dX _ _ fun e=>(by rw[e,hz.no] at hj;cases hj),fun l hl=>Env.dX _ _ fun e=>(by rw[e,hz.bk j c hj] at hl;cases hl),fun ad _=>⟨rfl,fun x=>x⟩⟩
 have hi:(β.set z (β i)) i=β i:=Env.dX _ _ hiz
 have hzz:(β.set z (β i)) z=β i:=Env.dw _ _ _
 refine⟨h1.fr,h1.stk,?_,?_,h1.low,h1.top,h1.glo,h1.lp⟩
 ·intro j c hj
  simp only[St.setB,St.je] at hj
  split at hj
  next e=>
   subst e
   simp only[Option.some.injEq] at hj;subst hj
   have:=h1.blk i _ hb
   rw[hi] at this;rw[hzz];exact this
  next e=>
   split at hj
   ·cases hj
   ·exact h1.blk j c hj
 ·intro j k a c hj hk ha hc he
  simp only[St.setB,St.je] at hj hk
  have key:∀ {j:Nat} {a:Addr},(if j=z then some b else if j=i then none else σ.bk j)≠none→(β.set z (β i)) j=some a→∃ j',σ.bk j'≠none∧(β.set z (β i)) j'=some a∧(j=z∧j'=i∨j≠z∧j≠i∧j'=j):=by
   intro j a hj ha
   by_cases e:j=z
   ·refine⟨i,by rw[hb];simp,?_, .inl ⟨e,rfl⟩⟩
    rw[e,hzz] at ha;rw[hi];exact ha
   ·rw[if_neg e] at hj
    by_cases e2:j=i
    ·rw[if_pos e2] at hj;exact absurd rfl hj
    ·rw[if_neg e2] at hj
     exact⟨j,hj,ha, .inr ⟨e,e2,rfl⟩⟩
  obtain⟨j',a1,a2,a3⟩:=key hj ha
  obtain⟨k',b1,b2,b3⟩:=key hk hc
  have e:=h1.inj j' k' a c a1 b1 a2 b2 he
  rcases a3 with⟨x1,x2⟩ | ⟨x1,x2,x3⟩<;>rcases b3 with⟨y1,y2⟩ | ⟨y1,y2,y3⟩
  ·rw[x1,y1]
  ·exact absurd (by rw[←y3,←e,x2]) y2
  ·exact absurd (by rw[←x3,e,y2]) x2
  ·rw[←x3,e,y3]
theorem aH.env {β':Env}:∀ {ds:List D} {vs:List Value},(∀ id,D.dm id ds=true→β' id=β id)→aH w A β ds vs→aH w A β' ds vs:=fun h hr=>
 aH.mono (.of_heap rfl) (fun _ h=>h) _ _ h hr
theorem yV {d:D} {z:Nat} (h:d.has z=false):d.forget z=d:=by
 unfold D.forget;rw[if_neg (by rw[h];simp)]
end
theorem MW {id:Nat} {cs:List D} (h:D.dm id cs=false):∀ d∈cs,d.has id=false:=by
 induction cs with
 |nil=>intro d hd;cases hd
 |cons c l ih=>
  intro d hd
  simp only[D.dm,Bool.or_eq_false_iff] at h
  rcases List.mem_cons.1 hd with rfl | hd
  ·exact h.1
  ·exact ih h.2 d hd
theorem I5 {cs:List D} {id:Nat} (h:D.dm id cs=false):cs.map (D.forget id)=cs:=by
 have:cs.map (D.forget id)=cs.map _root_.id:=List.map_congr_left fun d hd=>yV (MW h d hd)
 rw[this];simp
def St.grown (σ:St) (dst:Option Tmp) (i z n m s:Nat) (cs:List D):St:=((σ.je i).setB z ⟨cs,false⟩).put dst (.sl z 0 (n+m) ⟨s,0⟩)
theorem JJ {σ:St} {i z:Nat} {b:fK} (hz:Unused z σ) (c:fK):((((σ.je i).setB z b).forget z).setB z c)=(σ.je i).setB z c:=by
 have hf:∀ f:Fr,(∀ t,(f.tm t).has z=false)→f.forget z=f:=fun f hf=>by
  cases f with
  |mk nt tm=>simp only[Fr.forget,Fr.mk.injEq,true_and];funext t;exact yV (hf t)
 have h1:σ.fr.forget z=σ.fr:=hf _ hz.fr
 have h2:σ.stk.map (Fr.forget z)=σ.stk:=by
  have:σ.stk.map (Fr.forget z)=σ.stk.map _root_.id:=List.map_congr_left fun f hf'=>hf f (hz.stk f hf')
  rw[this];simp
 have h3:(if z=eu then none else σ.loop)=σ.loop:=by
  split
  ·next e=>exact(hz.lp e).symm
  ·rfl
 simp only[St.forget,St.setB,St.je,h1,h2,h3,St.mk.injEq,true_and,and_true]
 funext j
 by_cases e:j=z
 ·simp[e]
 ·simp only[if_neg e]
  by_cases e2:j=i
  ·simp[e2]
  ·simp only[if_neg e2]
   cases hb:σ.bk j with
   |none=>rfl
   |some x=>
    cases x with
    |mk cs ro=>simp only[Option.map_some,fK.forget];rw[I5 (hz.bk j _ hb)]
section
variable {P:Program} {w:World} {A:Nat→Prop} {β:Env} {base:Nat} {σ:St} {a:Act} {acts:List (Array Value)}
theorem Ya (hrel:Rel w A β base σ a.tmps acts) {o:Oper} {r:Result Next} (hr:(execOp a.eval o).run P w=r) {i n m s z:Nat} {sz:Sz} {ds cells:List D} (hE:Good P w A β r (.app (.sl i 0 n sz) s m ds))
  (hb:σ.bk i=some ⟨cells,false⟩) (hl:n*s≤cells.length) (hz:Unused z σ) (hd:D.dm z (cells.take (n*s) ++ ds)=false):
  ∃ u w' β',((execOp a.eval o).run P w= .ok (.value u) w'∨((execOp a.eval o).run P w= .ok .skip w'∧u=undef))∧Rel w' A β' base (σ.grown o.dst i z n m s (cells.take (n*s) ++ ds)) (a.put o.dst u).tmps acts∧Turn A A base w w':=by
 have h1:=hrel.rename hb hz
 refine zJ (e:= .app (.sl z 0 n sz) s m ds) h1 hr ?_ (id:=0) ?_
 ·obtain⟨t,t2,ty,e,e2,inf,zz,oo,nn,c,x,vs,p1,p2,p3,p4,p5,p6,p7,p8,p9,p10,p11,p12,p13,p14,p15,p16⟩:=hE
  have hiz:i≠z:=fun e=>by rw[e,hz.no] at hb;cases hb
  refine⟨t,t2,ty,e,e2,inf,zz,oo,nn,c,x,vs,p1,p2,p3,p4,p5,p6,p7,p8,?_,p10,p11,p12,?_,?_,?_,p16⟩
  ·refine aH.env (fun id hid=>Env.dX _ _ fun e=>?_) p9
   subst e
   have:D.dm id ds=false:=by
    cases hq:D.dm id ds with
    |false=>rfl
    |true=>
     have:=MW hd
     exfalso
     have hall:∀ l:List D,(∀ d∈l,d.has id=false)→D.dm id l=false:=fun l=>by
      induction l with
      |nil=>intro _;rfl
      |cons c l ih=>intro h;simp only[D.dm,Bool.or_eq_false_iff];exact⟨h c (by simp),ih fun d hd=>h d (by simp[hd])⟩
     rw[hall ds fun d hd=>this d (by simp[hd])] at hq;cases hq
   rw[this] at hid;cases hid
  ·simp only[Rep] at p13 ⊢
   obtain⟨o,c,e,h⟩:=p13
   refine⟨o,c,e,?_⟩
   rw[Env.dw];exact h
  ·intro id off n' sz' he
   simp only[D.sl.injEq] at he
   obtain⟨_,_,_,rfl⟩:=he
   exact p14 i 0 n sz rfl
  ·intro u he;cases he
 ·simp only[eY,St.setB,if_true]
  rw[if_pos (by simpa using hl)]
  simp only[List.drop_zero,Option.some.injEq]
  rw[I5 hd]
  show(((((σ.je i).setB z ⟨cells,false⟩).forget z).setB z _).put _ _)=_
  rw[JJ hz];rfl
end
def l9 (P:Program) (f:FuncId):Option (Func×Code):=
 match P.funcs[f]? with
 |none=>none
 | some fn => if fn.name == "runtime.NumGoroutine" then none else match fn.body with
  |none=>none
  |some c=>some (fn,c)
def PX (want:Bool):Value→Option Bool
 | .bool b=>some (b ==want)
 |_=>some false
def adr (want:Bool):D→Option Bool
 | .v x=>PX want x
 |_=>none
def bJ (R:Array Oper) (o:Oper) (σ:St):Option Bool:=
 match o.guard with
 |none=>some true
 |some (j,want)=>match (R[j]?).bind (·.dst) with
  |none=>some false
  |some t=>adr want (σ.fr.tm t)
def St.enter (σ:St) (args:List D) (nt:Nat):St:=
 { fr:={ nt:=args.length+(nt - args.length),tm:=fun t=>(args ++ List.replicate (nt - args.length) (D.v undef)).getD t .undef },stk:=σ.fr::σ.stk,bk:=σ.bk,loop:=σ.loop }
def resD (P:Program) (σ:St):List ResultVar→Option (List D)
 |[]=>some []
 | .tmp t::rs=>(resD P σ rs).map (σ.fr.tm t::·)
 | .cell t ty::rs=>match (σ.fr.tm t).behind σ.bk with
  |none=>none
  |some (cs,off)=>match takeD P ty cs off,resD P σ rs with
   |some d,some ds=>some (d::ds)
   |_,_=>none
def wu:List D→D
 |[d]=>d
 |ds=> .aS ds
def callParts:Op→Option (Operand×Array Operand)
 | .call ⟨.value fo,args,_⟩=>some (fo,args)
 |_=>none
inductive Ex where
 |normal
 |exit (id:Nat)
 |ret
 deriving DecidableEq
def Ex.out:Ex→Exit
 | .normal=> .normal
 | .exit id=> .exit id
 | .ret=> .ret
def fB (σ σ':St):Prop:=∀ (w:World) (A:Nat→Prop) (β:Env) (base:Nat) (tmps:Array Value) (acts:List (Array Value)),Rel w A β base σ tmps acts→∃ β':Env,Rel w A β' base σ' tmps acts
inductive oP (P:Program) (F:FuncId→List D→D→Prop) (o:Oper) (σ:St):St→Prop
 |op {e:Eff} {id:Nat} {σ':St}:dR P σ.bk (bP σ) o.type o.op=some e→eY σ o.dst id e=some σ'→oP P F o σ σ'
 |opw {e:Eff} {id:Nat} {σ1 σ':St}:dR P σ.bk (bP σ) o.type o.op=some e→eY σ o.dst id e=some σ1→fB σ1 σ'→oP P F o σ σ'
 |ext {fo:Operand} {args:Array Operand} {f:FuncId} {vs:List Value} {u:Value}:callParts o.op=some (fo,args)→bP σ fo= .fn f []→D.wR (args.toList.map (bP σ))=some vs→
   dK P (callFunc f vs.toArray)=some (.value u)→oP P F o σ (σ.put o.dst (D.oV u))
 |call {fo:Operand} {args:Array Operand} {f:FuncId} {caps:List D} {id:Nat} {σ':St}:callParts o.op=some (fo,args)→bP σ fo= .fn f caps→(l9 P f).isSome=true→
   adZ F σ o.dst id f (args.toList.map (bP σ) ++ caps) σ'→oP P F o σ σ'
 |grow {i n m s z:Nat} {sz:Sz} {ds cells:List D}:dR P σ.bk (bP σ) o.type o.op=some (.app (.sl i 0 n sz) s m ds)→σ.bk i=some ⟨cells,false⟩→n*s≤cells.length→Unused z σ→
   D.dm z (cells.take (n*s) ++ ds)=false→oP P F o σ (σ.grown o.dst i z n m s (cells.take (n*s) ++ ds))
structure ao8 (σ σ':St):Prop where
 nt:σ'.fr.nt=σ.fr.nt
 tm:∀ t,σ'.fr.tm t=σ.fr.tm t∨σ'.fr.tm t= .undef
 stk:σ'.stk=σ.stk
 bk:∀ i,σ'.bk i=σ.bk i∨σ'.bk i=none
 lp:σ'.loop=σ.loop
section
variable {P:Program} {F:FuncId→List D→D→Prop}
theorem fB.refl (σ:St):fB σ σ:=fun _ _ β _ _ _ hr=>⟨β,hr⟩
theorem fB.trans {σ σ' σ'':St} (h:fB σ σ') (k:fB σ' σ''):fB σ σ'':=fun w A β base t a hr=>let ⟨β',h'⟩:=h w A β base t a hr;k w A β' base t a h'
theorem jd {w:World} {A:Nat→Prop} {β:Env} {base:Nat} {σ:St} {a:Act} {acts:List (Array Value)} (h:Rel w A β base σ a.tmps acts) (x:Operand):Rep w A β (bP σ x) (a.eval x):=by
 cases x with
 |tmp t=>exact h.fr.tm t
 |const v=>exact Rep.oV v
 |global g=>
  show Rep w A β (acJ (iG.g g)) _
  cases hg:iG.g g with
  |nil=>simp[acJ,Rep,aG]
  |cons d ds=>
   have hne:iG.g g≠[]:=by rw[hg];simp
   obtain⟨h1,h2⟩:=h.glo g hne
   rw[hg] at h2
   exact⟨⟨g,0,none⟩,rfl,rfl,fun _=>h1,h2⟩
 |func f=>simp only[bP,Rep,Act.eval];exact⟨[],rfl,by simp[aH]⟩
theorem jk {w:World} {A:Nat→Prop} {β:Env} {base:Nat} {σ:St} {a:Act} {acts:List (Array Value)} (h:Rel w A β base σ a.tmps acts) {R:Array Oper} {o:Oper} {b:Bool} (hw:bJ R o σ=some b):
  Region.wanted o (yielded R a.tmps)=b:=by
 unfold bJ at hw
 unfold Region.wanted
 split at hw
 next hg=>simp at hw;subst hw;simp[hg]
 next j want hg=>
  simp only[hg]
  split at hw
  next hd=>simp at hw;subst hw;simp[yielded,hd]
  next t hd=>
   have ht:=h.fr.tm t
   have hget:∀ x:Value,(a.tmps.getD t Go.undef=x)→x≠Go.undef→a.tmps[t]? =some x:=by
    intro x hx hne
    rw[Array.getD_eq_getD_getElem?] at hx
    cases hc:a.tmps[t]? with
    |none=>rw[hc] at hx;exact absurd hx.symm hne
    |some y=>rw[hc] at hx;simp at hx;rw[hx]
   unfold adr at hw
   split at hw
   next x hx=>
    rw[hx] at ht
    simp only[Rep,aG] at ht
    unfold PX at hw
    split at hw
    next b'=>
     simp at hw;subst hw
     have:=hget _ ht (by simp[Go.undef])
     simp[yielded,hd,this]
    next hnb=>
     simp at hw;subst hw
     have hy:yielded R a.tmps j=none:=by
      simp only[yielded,hd,Option.bind_some]
      cases hc:a.tmps[t]? with
      |none=>rfl
      |some y=>
       rw[Array.getD_eq_getD_getElem?,hc] at ht
       simp at ht
       subst ht
       cases y<;>first | rfl | exact absurd rfl (hnb _)
     rw[hy];cases want<;>rfl
   ·cases hw
theorem yj {f:FuncId} {fn:Func} {c:Code} (h:l9 P f=some (fn,c)):P.funcs[f]? =some fn∧fn.body=some c∧∀ (args:Array Value) (w:World),(callFunc f args).run P w= .ok (.enter f args) w:=by
 unfold l9 at h
 split at h
 ·cases h
 next fn' hf=>
  split at h
  ·cases h
  next hn=>
   split at h
   ·cases h
   next c' hb=>
    simp at h;obtain⟨rfl,rfl⟩:=h
    refine⟨hf,hb,fun args w=>?_⟩
    have hn' : (fn'.name == "runtime.NumGoroutine") = false := by simpa using hn
    have hn2 : ¬ fn'.name = "runtime.NumGoroutine" := by simpa using hn'
    simp[callFunc,hf,hn2,hb]
theorem qL {w:World} {A:Nat→Prop} {β:Env} {o:Oper} {ρv:Operand→Value} {fo:Operand} {args:Array Operand} (h:callParts o.op=some (fo,args)) {f:FuncId} {vcaps:List Value} (hf:ρv fo= .func (.func f) #[] vcaps.toArray):
  (execOp ρv o).run P w=(callFunc f ((args.toList.map ρv) ++ vcaps).toArray).run P w:=by
 obtain⟨dst,op,type,pos,after,guard⟩:=o
 cases op with
 |call c=>
  obtain⟨callee,as,ts⟩:=c
  cases callee with
  |value g=>
   simp[callParts] at h
   obtain⟨rfl,rfl⟩:=h
   simp only[execOp,resolve,hf,Deferred.ofValue,Sem.run_bind,Sem.run_pure,Result.andThen_ok,invoke]
   congr 2
   apply Array.ext'
   simp
  |_=>simp[callParts] at h
 |_=>simp[callParts] at h
theorem Qe (hF:∀ f as res,F f as res→CallsD P f as res) {w:World} {A:Nat→Prop} {β:Env} {base:Nat} {σ σ':St} {a:Act} {acts:List (Array Value)} (hrel:Rel w A β base σ a.tmps acts) {o:Oper} (h:oP P F o σ σ')
  {K:Act→World→Prop} {Q:Exit→Act→World→Prop} (hK:∀ a' w' A' β',a'.defers=a.defers→Rel w' A' β' base σ' a'.tmps acts→Turn A A' base w w'→K a' w'):o.wp P a w K Q:=by
 have hput:∀ u,(a.put o.dst u).defers=a.defers:=fun u=>by cases o.dst<;>rfl
 cases h with
 |op h1 h2=>
  obtain⟨r,hr,hg⟩:=Ep hrel (jd hrel) o h1
  obtain⟨u,w',β',hrun,hrel',hturn⟩:=zJ hrel hr hg h2
  unfold Oper.wp
  rcases hrun with h | ⟨h,rfl⟩<;>rw[h]
  ·exact hK _ w' A β' (hput u) hrel' hturn
  ·exact hK _ w' A β' (hput _) hrel' hturn
 |opw h1 h2 h3=>
  obtain⟨r,hr,hg⟩:=Ep hrel (jd hrel) o h1
  obtain⟨u,w',β',hrun,hrel',hturn⟩:=zJ hrel hr hg h2
  obtain⟨β2,hr2⟩:=h3 _ _ _ _ _ _ hrel'
  unfold Oper.wp
  rcases hrun with h | ⟨h,rfl⟩<;>rw[h]
  ·exact hK _ w' A β2 (hput u) hr2 hturn
  ·exact hK _ w' A β2 (hput _) hr2 hturn
 |grow h1 h2 h3 h4 h5=>
  obtain⟨r,hr,hg⟩:=Ep hrel (jd hrel) o h1
  obtain⟨u,w',β',hrun,hrel',hturn⟩:=Ya hrel hr hg h2 h3 h4 h5
  unfold Oper.wp
  rcases hrun with h | ⟨h,rfl⟩<;>rw[h]
  ·exact hK _ w' A β' (hput u) hrel' hturn
  ·exact hK _ w' A β' (hput _) hrel' hturn
 |@ext fo args f vs u h1 h2 h3 h4=>
  have hfo:=jd hrel fo
  rw[h2] at hfo
  simp only[Rep,aH] at hfo
  obtain⟨vc,hfo,rfl⟩:=hfo
  have hp:=qg (jd hrel) _ _ h3
  unfold Oper.wp
  rw[qL (w:=w) (A:=A) (β:=β) h1 hfo,hp,List.append_nil,qo P w _ _ h4]
  exact hK _ w A β (hput u) (hrel.uN o.dst (Rep.oV u)) (.refl _ _ _)
 |@call fo args f caps id _ h1 h2 h3 h4=>
  have hfo:=jd hrel fo
  rw[h2] at hfo
  simp only[Rep] at hfo
  obtain⟨vc,hfo,hcaps⟩:=hfo
  obtain⟨⟨fn,c⟩,hb⟩:=Option.isSome_iff_exists.1 h3
  unfold Oper.wp
  rw[qL (w:=w) (A:=A) (β:=β) h1 hfo,(yj hb).2.2]
  have hargs:aH w A β (args.toList.map (bP σ) ++ caps) (args.toList.map a.eval ++ vc):=(oL (jd hrel) _).append hcaps
  refine(VR hF hrel hargs h4).mono ?_
  rintro e w' ⟨v,A',β',rfl,hrel',hturn⟩
  exact hK _ w' A' β' (hput v) hrel' hturn
def Py (tmps:Array Value):ResultVar→Sem Value
 | .tmp t=>pure (tmps.getD t undef)
 | .cell a t=>do loadVar t (←asAddr (tmps.getD a undef))
theorem Tv (a:Addr):asAddr (.pointer (some a))=pure a:=rfl
theorem XV (fn:Func) (tmps:Array Value):results fn tmps=(do let vs ←fn.results.mapM (Py tmps);pure (if h:vs.size=1 then vs[0] else .tuple vs)):=rfl
theorem Qp {w:World} {A:Nat→Prop} {β:Env} {base:Nat} {σ:St} {tmps:Array Value} {acts:List (Array Value)} (hrel:Rel w A β base σ tmps acts):∀ (rs:List ResultVar) (ds:List D),resD P σ rs=some ds→
  ∃ vs:List Value,(rs.mapM (Py tmps)).run P w= .ok vs w∧aH w A β ds vs
 |[],ds,h=>by simp[resD] at h;subst h;exact⟨[],rfl,by simp[aH]⟩
 | .tmp t::rs,ds,h=>by
  simp only[resD,Option.map_eq_some_iff] at h
  obtain⟨es,h1,rfl⟩:=h
  obtain⟨vs,k1,k2⟩:=Qp hrel rs es h1
  refine⟨tmps.getD t undef::vs,?_,by simp only[aH];exact⟨_,_,rfl,hrel.fr.tm t,k2⟩⟩
  rw[List.mapM_cons]
  simp only[Py,Sem.run_bind,Sem.run_pure,Result.andThen_ok,k1]
 | .cell t ty::rs,ds,h=>by
  simp only[resD] at h
  split at h
  ·cases h
  next cs off hb=>
   split at h
   next d es hd h1=>
    simp at h;subst h
    obtain⟨vs,k1,k2⟩:=Qp hrel rs es h1
    have hne:cs≠[]:=by
     rintro rfl
     unfold takeD at hd
     split at hd
     ·cases hd
     ·split at hd
      ·split at hd
       next hlt=>simp at hlt;omega
       ·cases hd
      ·simp at hd
    obtain⟨ad,e1,e2,e3⟩:=EK hrel (hrel.fr.tm t) hb hne
    obtain⟨u,k3,k4⟩:=UA (P:=P) e2 e3 hd
    refine⟨u::vs,?_,by simp only[aH];exact⟨_,_,rfl,k4,k2⟩⟩
    rw[List.mapM_cons]
    simp only[Sem.run_bind,Sem.run_pure,k1,show Py tmps (.cell t ty)=(do loadVar ty (←asAddr (tmps.getD t undef))) from rfl,e1,Tv,Result.andThen_ok,k3]
   ·cases h
theorem wG {w:World} {A:Nat→Prop} {β:Env} {base:Nat} {σ:St} {tmps:Array Value} {acts:List (Array Value)} (hrel:Rel w A β base σ tmps acts) {fn:Func} {ds:List D} (h:resD P σ fn.results.toList=some ds):
  ∃ v,(results fn tmps).run P w= .ok v w∧Rep w A β (wu ds) v:=by
 obtain⟨vs,k1,k2⟩:=Qp hrel _ ds h
 have hrun:(results fn tmps).run P w= .ok (if h:vs.toArray.size=1 then vs.toArray[0] else .tuple vs.toArray) w:=by
  rw[XV]
  simp only[Sem.run_bind,Array.mapM_eq_mapM_toList,Sem.run_map,k1,Result.andThen_ok,Sem.run_pure]
 refine⟨_,hrun,?_⟩
 have hlen:=k2.length
 match ds,vs,k2,hlen with
 |[d],[v],k2,_=>simp only[aH] at k2;obtain⟨x,xs,he,h1,h2⟩:=k2;simp at he;simp[wu];rw[he.1];exact h1
 |[],[],k2,_=>simp[wu,Rep,aH]
 |d1::d2::ds,v1::v2::vs,k2,_=>simp only[wu,Rep];exact⟨_,by simp,k2⟩
 |[d],[],_,h=>simp at h
 |[d],v1::v2::vs,_,h=>simp at h
 |[],v::vs,_,h=>simp at h
 |d1::d2::ds,[],_,h=>simp at h
 |d1::d2::ds,[v],_,h=>simp at h
end
section
variable {w:World} {A:Nat→Prop} {β:Env} {base:Nat} {σ:St} {tmps:Array Value} {acts:List (Array Value)}
def St.JD (σ:St) (t:Nat) (d:D):St:={ σ with fr:={ nt:=σ.fr.nt,tm:=fun k=>if k=t then(if t<σ.fr.nt then d else .undef) else σ.fr.tm k } }
theorem Rel.JD (h:Rel w A β base σ tmps acts) (t:Nat) (d:D) (hd:t<σ.fr.nt→Rep w A β d (tmps.getD t Go.undef)):Rel w A β base (σ.JD t d) tmps acts:=
 ⟨⟨h.fr.nt,fun k=>by
   show Rep w A β (if k=t then(if t<σ.fr.nt then d else .undef) else σ.fr.tm k) _
   by_cases e:k=t
   ·subst e
    rw[if_pos rfl]
    by_cases hl:k<σ.fr.nt
    ·rw[if_pos hl];exact hd hl
    ·rw[if_neg hl];simp[Rep,aG]
   ·rw[if_neg e];exact h.fr.tm k⟩,h.stk,h.blk,h.inj,h.low,h.top,h.glo,h.lp⟩
theorem Rel.empty' (h:Rel w A β base σ tmps acts) (i:Nat):∃ β':Env,β' i=none∧Rel w A β' base ((σ.forget i).setB i ⟨[],false⟩) tmps acts∧∀ k,k≠i→β' k=β k:=by
 have h1:=h.forget i
 have key:∀ (d:D) (id:Nat),(d.forget i).has id=true→(fun k=>if k=i then none else β k:Env) id=β id:=fun d id hd=>by
  have:=(D.gK hd).2
  simp[this]
 refine⟨fun k=>if k=i then none else β k,by simp,?_,fun k hk=>by simp[hk]⟩
 have h2:Rel w A (fun k=>if k=i then none else β k) base (σ.forget i) tmps acts:=by
  refine h1.carry (.refl _ _) (fun _ h=>h) h1.low h1.top ?_ ?_ ?_ ?_
  ·intro t id hid
   exact key (σ.fr.tm t) id hid
  ·intro f hf t id hid
   simp only[St.forget,List.mem_map] at hf
   obtain⟨f0,_,rfl⟩:=hf
   exact key (f0.tm t) id hid
  ·intro k b hk
   simp only[St.forget] at hk
   split at hk
   ·cases hk
   next e=>
    rw[Option.map_eq_some_iff] at hk
    obtain⟨b0,_,rfl⟩:=hk
    refine⟨by simp[e],fun id hid=>?_,fun ad _=>⟨rfl,fun h=>h⟩⟩
    have:=(D.jf (cs:=b0.cells) hid).2
    simp[this]
  ·show iZ w A _ base (if i=eu then none else σ.loop) acts
   by_cases e:i=eu
   ·rw[if_pos e];trivial
   ·rw[if_neg e]
    exact h.lp.mono (.refl w) (.refl A w) (fun _=>by simp[Ne.symm e])
 refine⟨h2.fr,h2.stk,fun k b' hk=>?_,fun x y a c hx hy ha hc hac=>?_,h2.low,h2.top,h2.glo,h2.lp⟩
 ·simp only[St.setB] at hk
  split at hk
  next e=>simp at hk;subst hk;exact .inl ⟨by simp[e],rfl⟩
  next e=>exact h2.blk k b' hk
 ·by_cases ex:x=i
  ·simp[ex] at ha
  by_cases ey:y=i
  ·simp[ey] at hc
  exact h2.inj x y a c (by simpa only[St.setB,if_neg ex] using hx) (by simpa only[St.setB,if_neg ey] using hy) ha hc hac
theorem Rel.empty (h:Rel w A β base σ tmps acts) (i:Nat):∃ β':Env,β' i=none∧Rel w A β' base ((σ.forget i).setB i ⟨[],false⟩) tmps acts:=by
 obtain⟨β',h1,h2,_⟩:=h.empty' i
 exact⟨β',h1,h2⟩
end
theorem xH (σ:St) (t i:Nat) (s d:D) (b:fK):((((σ.put (some t) s).forget i).setB i b).JD t d)=(((σ.forget i).setB i b).put (some t) d):=by
 simp only[St.put,St.forget,St.setB,St.JD]
 congr 1
 simp only[Fr.forget,Fr.put]
 congr 1
 funext k
 by_cases e:k=t
 ·rw[if_pos e,if_pos e]
  rfl
 ·rw[if_neg e,if_neg e,if_neg e]
theorem EF {σ:St} {t i:Nat} {x:D} {s:Nat} (hx:x= .emp∨x= .v (.slice none 0 0)):fB (σ.put (some t) x) (((σ.forget i).setB i ⟨[],false⟩).put (some t) (.sl i 0 0 ⟨s,0⟩)):=by
 intro w A β base tmps acts h
 obtain⟨β',hb',h1⟩:=h.empty i
 refine⟨β',?_⟩
 rw[←xH σ t i x _ ⟨[],false⟩]
 refine h1.JD t _ fun hl=>?_
 have hl:t<σ.fr.nt:=hl
 have hu:=h.fr.tm t
 have e:((σ.put (some t) x).fr.tm t)=x:=by
  show(if t=t then(if t<σ.fr.nt then x else .undef) else σ.fr.tm t)=_
  rw[if_pos rfl,if_pos hl]
 rw[e] at hu
 simp only[Rep]
 rcases hx with rfl | rfl
 ·simp only[Rep,aG] at hu
  obtain⟨ad,hu⟩:=hu
  exact⟨some ad,0,hu, .inl ⟨by simp,rfl⟩⟩
 ·simp only[Rep,aG] at hu
  exact⟨none,0,hu, .inl ⟨by simp,rfl⟩⟩
theorem Yl {σ:St} {dst:Option Tmp} {i s:Nat}:fB (σ.put dst .emp) (((σ.forget i).setB i ⟨[],false⟩).put dst (.sl i 0 0 ⟨s,0⟩)):=by
 cases dst with
 |none=>
  intro w A β base tmps acts h
  obtain⟨β',_,h1⟩:=Rel.empty h i
  exact⟨β',h1⟩
 |some t=>exact EF (.inl rfl)
theorem Rel.cut {w:World} {A:Nat→Prop} {β:Env} {base:Nat} {σ:St} {tmps:Array Value} {acts:List (Array Value)} (h:Rel w A β base σ tmps acts) {z:Nat} {b:fK} (hb:σ.bk z=some b) (k:Nat):Rel w A β base (σ.setB z ⟨b.cells.take k,b.ro⟩) tmps acts:=by
 refine⟨h.fr,h.stk,fun k b' hk=>?_,fun x y a c hx hy ha hc hac=>?_,h.low,h.top,h.glo,h.lp⟩
 ·simp only[St.setB] at hk
  split at hk
  next e=>
   simp at hk;subst hk;subst e
   rcases h.blk _ b hb with⟨k1,k2⟩ | ⟨ad,k1,k2⟩
   ·exact .inl ⟨k1,by simp[k2]⟩
   ·exact .inr ⟨ad,k1,⟨k2.spot,k2.base,k2.obj,k2.cells.take k2.spot _,k2.own,k2.shared,k2.inside⟩⟩
  next e=>exact h.blk _ b' hk
 ·refine h.inj x y a c ?_ ?_ ha hc hac
  ·by_cases e:x=z
   ·subst e;simp[hb]
   ·simpa only[St.setB,if_neg e] using hx
  ·by_cases e:y=z
   ·subst e;simp[hb]
   ·simpa only[St.setB,if_neg e] using hy
theorem Ls {σ:St} {dst:Option Tmp} {i z n s k:Nat} {sz:Sz} {cells:List D} (hb:σ.bk i=some ⟨cells,false⟩) (hz:Unused z σ) (hs:sz.s=s):
  fB (σ.put dst (.sl i 0 n sz)) (((σ.je i).setB z ⟨cells.take k,false⟩).put dst (.sl z 0 n ⟨s,0⟩)):=by
 have hiz:i≠z:=fun e=>by rw[e,hz.no] at hb;cases hb
 intro w A β base tmps acts h
 refine⟨β.set z (β i),?_⟩
 have hzp:Unused z (σ.put dst (.sl i 0 n sz)):=by
  cases dst with
  |none=>exact hz
  |some t=>
   refine⟨fun t'=>?_,hz.stk,hz.no,hz.bk,hz.lp⟩
   show(if t'=t then(if t<σ.fr.nt then D.sl i 0 n sz else .undef) else σ.fr.tm t').has z=false
   split
   ·split
    ·simp only[D.has];simpa using hiz
    ·rfl
   ·exact hz.fr t'
 have hbp:(σ.put dst (.sl i 0 n sz)).bk i=some ⟨cells,false⟩:=by cases dst<;>exact hb
 have h1:=h.rename hbp hzp
 have h2:=h1.cut (z:=z) (b:=⟨cells,false⟩) (by simp[St.setB]) k
 have hbz:(β.set z (β i)) z=β i:=Env.dw _ _ _
 cases dst with
 |none=>
  have e:(((σ.put none (.sl i 0 n sz)).je i).setB z ⟨cells,false⟩).setB z ⟨cells.take k,false⟩=((σ.je i).setB z ⟨cells.take k,false⟩).put none (.sl z 0 n ⟨s,0⟩):=by
   simp only[St.put,St.setB,St.je]
   congr 1
   funext j
   by_cases e:j=z<;>simp[e]
  rw[←e];exact h2
 |some t=>
  have e:((((σ.put (some t) (.sl i 0 n sz)).je i).setB z ⟨cells,false⟩).setB z ⟨cells.take k,false⟩).JD t (.sl z 0 n ⟨s,0⟩)=((σ.je i).setB z ⟨cells.take k,false⟩).put (some t) (.sl z 0 n ⟨s,0⟩):=by
   simp only[St.put,St.setB,St.je,St.JD,Fr.put]
   congr 1
   ·congr 1
    funext j
    by_cases e:j=t
    ·rw[if_pos e,if_pos e];rfl
    ·rw[if_neg e,if_neg e,if_neg e]
   ·funext j
    by_cases e:j=z<;>simp[e]
  rw[←e]
  refine h2.JD t _ fun hl=>?_
  have hl:t<σ.fr.nt:=hl
  have hu:=h.fr.tm t
  have e3:((σ.put (some t) (.sl i 0 n sz)).fr.tm t)= .sl i 0 n sz:=by
   show(if t=t then(if t<σ.fr.nt then D.sl i 0 n sz else .undef) else σ.fr.tm t)=_
   rw[if_pos rfl,if_pos hl]
  rw[e3] at hu
  simp only[Rep] at hu ⊢
  obtain⟨o,c,hu,hc⟩:=hu
  refine⟨o,c,hu,?_⟩
  subst hs
  rw[hbz]
  rcases hc with⟨h2,h3⟩ | ⟨h2,ad,h3,h4,h5⟩
  ·exact .inl ⟨by omega,h3⟩
  ·exact .inr ⟨by show max n 0≤c;omega,ad,h3,h4,h5⟩
theorem LH (id:Nat) (σ:St):Unused id (σ.forget id) where
 fr:=fun t=>D.Ku id _
 stk:=fun f hf t=>by
  simp only[St.forget,List.mem_map] at hf
  obtain⟨g,_,rfl⟩:=hf
  exact D.Ku id _
 no:=by simp[St.forget]
 lp:=fun e=>by simp[St.forget,e]
 bk:=fun i b hb=>by
  simp only[St.forget] at hb
  split at hb
  ·cases hb
  ·simp only[Option.map_eq_some_iff] at hb
   obtain⟨b0,_,rfl⟩:=hb
   simp only[fK.forget]
   rw[Bool.eq_false_iff]
   intro h
   exact(D.jf h).2 rfl
theorem qX {id j:Nat} {d:D} (h:d.has id=false):(d.forget j).has id=false:=by
 rw[Bool.eq_false_iff];intro e;rw[(D.gK e).1] at h;cases h
theorem Unused.forget {id:Nat} {σ:St} (h:Unused id σ) (j:Nat):Unused id (σ.forget j) where
 fr:=fun t=>qX (h.fr t)
 stk:=fun f hf t=>by
  simp only[St.forget,List.mem_map] at hf
  obtain⟨g,hg,rfl⟩:=hf
  exact qX (h.stk g hg t)
 no:=by simp only[St.forget];split;rfl;rw[h.no];rfl
 lp:=fun e=>by simp only[St.forget];split;rfl;exact h.lp e
 bk:=fun i b hb=>by
  simp only[St.forget] at hb
  split at hb
  ·cases hb
  ·simp only[Option.map_eq_some_iff] at hb
   obtain⟨b0,hb0,rfl⟩:=hb
   simp only[fK.forget]
   rw[Bool.eq_false_iff]
   intro e
   have:=h.bk i b0 hb0
   rw[(D.jf e).1] at this
   cases this
structure QR where
 d:D
 new:List (Nat×List D)
 ro:List Nat
 told:List Nat
 gone:Option Nat
def ni (i:Nat):List (Nat×List D)→Option fK
 |[]=>none
 |(j,cs)::l=>if j=i then some ⟨cs,false⟩ else ni i l
def nN (bk:Nat→Option fK) (r:QR):Nat→Option fK:=fun i=>
 match ni i r.new with
 |some b=>some b
 |none=>if r.gone=some i then none else if i∈r.ro then(bk i).map fun b=>{ b with ro:=true } else bk i
def St.q (σ:St) (dst:Option Tmp) (r:QR):St:=St.put { σ with bk:=nN σ.bk r } dst r.d
def kindOf (P:Program):Op→Nat
 | .move _ | .assign _ | .pick _ _ _ | .build _ _ | .nilCheck _ | .binOp _ _ _ _ _ | .unOp _ _ _ | .convert _ _ _ | .makeFunc _ _ _ | .fieldAddr _ _ _ | .field _ _ _ | .indexAddr _ _ _ | .index _ _ _ | .extract _ _=>0
 | .slice _ _ _ _ (some _)=>0
 | .call ⟨.builtin .len,_,_⟩ | .call ⟨.builtin .max,_,_⟩ | .call ⟨.builtin .min,_,_⟩=>0
 | .load _ _ | .alloc _ | .box _ _ | .buildSlice _ _ _ | .makeSlice _ _ _ | .slice _ _ _ _ none | .call ⟨.value _,_,_⟩ | .call ⟨.builtin .append,_,_⟩=>1
 | .store _ _ _=>2
 | .call ⟨.builtin .copy,_,_⟩=>4
 |_=>3
inductive F7 (P:Program) (F:FuncId→List D→D→Prop) (o:Oper) (ρ:Operand→D) (bk:Nat→Option fK):QR→Prop
 |val {d:D}:kindOf P o.op≤1→dR P bk ρ o.type o.op=some (.val d)→F7 P F o ρ bk ⟨d,[],[],[],none⟩
 |box {cs:List D} {id:Nat}:kindOf P o.op≤1→dR P bk ρ o.type o.op=some (.box cs)→F7 P F o ρ bk ⟨.ptr id 0,[(id,cs)],[],[],none⟩
 |row {cs:List D} {n sz id:Nat}:kindOf P o.op≤1→dR P bk ρ o.type o.op=some (.row cs n sz)→F7 P F o ρ bk ⟨.sl id 0 n ⟨sz,0⟩,[(id,cs)],[],[],none⟩
 |app0 {s:D} {sz m id:Nat} {ds:List D}:kindOf P o.op≤1→dR P bk ρ o.type o.op=some (.app s sz m ds)→(s= .emp∨∃ u,s= .v u)→F7 P F o ρ bk ⟨.sl id 0 m ⟨sz,0⟩,[(id,ds)],[],[],none⟩
 |appE {sz m id:Nat} {ds:List D}:kindOf P o.op=1→dR P bk ρ o.type o.op=some (kJ .emp sz m ds)→(m=0→ds=[])→F7 P F o ρ bk ⟨.sl id 0 m ⟨sz,0⟩,[(id,ds)],[],[],none⟩
 |row0:kindOf P o.op≤1→dR P bk ρ o.type o.op=some .row0→F7 P F o ρ bk ⟨.emp,[],[],[],none⟩
 |ext {fo:Operand} {args:Array Operand} {f:FuncId} {vs:List Value} {u:Value}:callParts o.op=some (fo,args)→ρ fo= .fn f []→D.wR (args.toList.map ρ)=some vs→
   dK P (callFunc f vs.toArray)=some (.value u)→F7 P F o ρ bk ⟨D.oV u,[],[],[],none⟩
 |call {fo:Operand} {args:Array Operand} {f:FuncId} {caps as:List D} {passed:List Nat} {res:D} {id:Nat}:callParts o.op=some (fo,args)→ρ fo= .fn f caps→(l9 P f).isSome=true→
   aW (share bk depth) (args.toList.map ρ ++ caps)=some (as,passed)→F f as res→
   F7 P F o ρ bk ⟨(thaw id res).1,(thaw id res).2.zipIdx.map fun (cs,k)=>(id+k,cs),if flat res then[] else passed,passed,none⟩
 |grow {i n m s id:Nat} {sz:Sz} {ds cells:List D}:kindOf P o.op=1→(∃ y∈o.op.operands,ρ y= .sl i 0 n sz)→dR P bk ρ o.type o.op=some (kJ (.sl i 0 n sz) s m ds)→(m=0→ds=[]∧sz.s=s)→bk i=some ⟨cells,false⟩→n*s≤cells.length→
   F7 P F o ρ bk ⟨.sl id 0 (n+m) ⟨s,0⟩,[(id,cells.take (n*s) ++ ds)],[],[],some i⟩
def Sep (ρ:Operand→D) (o:Oper) (t:Nat) (r:QR):Prop:=(∀ y∈o.op.operands,(ρ y).has t=false)∧t∉r.told
structure Plan where
 zs:Nat→List Nat
 W:Nat→Nat→Bool
 T:Nat→Bool
 S:Nat→List Nat
 U:Nat→Bool
 tgt:Nat→Nat
 Gr:Nat→Bool
def wQ (p:Plan) (k:Nat) (d:D):Prop:=∀ l,p.W k l=true→∀ id∈p.zs l,d.has id=false
inductive gJ (P:Program) (F:FuncId→List D→D→Prop) (O:Oper→St→St→Prop) (R:Array Oper) (p:Plan) (k:Nat) (o:Oper) (σ:St):St→Prop
 |skip:bJ R o σ=some false→gJ P F O R p k o σ (σ.q o.dst ⟨.v undef,[],[],[],none⟩)
 |op {r:QR}:bJ R o σ=some true→F7 P F o (bP σ) σ.bk r→(∀ i cs,(i,cs)∈r.new→i∈p.zs k∧Unused i σ∧∀ j cs',(j,cs')∈r.new→D.dm i cs'=false)→(r.new.map (·.1)).Nodup→
   wQ p k r.d→(∀ i cs,(i,cs)∈r.new→∀ d∈cs,wQ p k d)→(kindOf P o.op=0∨∀ j∈p.S k,Sep (bP σ) o (p.tgt j) r)→(∀ g,r.gone=some g→p.Gr k=true∧g=p.tgt k)→gJ P F O R p k o σ (σ.q o.dst r)
 |sto {id off:Nat} {ds cells:List D}:bJ R o σ=some true→kindOf P o.op=2→dR P σ.bk (bP σ) o.type o.op=some (.sto id off ds)→σ.bk id=some ⟨cells,false⟩→off+ds.length≤cells.length→
   (∀ d∈ds,wQ p k d)→(p.U k=true→id=p.tgt k)→gJ P F O R p k o σ ((σ.setB id ⟨splice cells off ds,false⟩).put o.dst (.v undef))
 |cpy {id off:Nat} {k':Value} {ds cells:List D}:bJ R o σ=some true→kindOf P o.op=4→dR P σ.bk (bP σ) o.type o.op=some (.cpy id off ds k')→σ.bk id=some ⟨cells,false⟩→off+ds.length≤cells.length→
   (∀ d∈ds,wQ p k d)→gJ P F O R p k o σ ((σ.setB id ⟨splice cells off ds,false⟩).put o.dst (D.oV k'))
 |oth {σ':St}:p.T k=true→O o σ σ'→(∀ l,p.W k l=true→∀ id∈p.zs l,Unused id σ')→gJ P F O R p k o σ σ'
end Go.Dam
end
noncomputable section
namespace Go.Dam
open Go Go.RowKit
variable [iG]
section
variable {P:Program} {F:FuncId→List D→D→Prop} {R:Array Oper}
theorem DW {bk:Nat→Option fK} {ρ ρ':Operand→D} {ty:TypeId} {op:Op} (h:∀ x∈op.operands,ρ x=ρ' x):dR P bk ρ ty op=dR P bk ρ' ty op:=by
 have pairs:∀ ps:Array (Nat×Operand),(∀ x∈ps.toList.map (·.2),ρ x=ρ' x)→(ps.toList.map fun p=>(p.1,ρ p.2))=(ps.toList.map fun p=>(p.1,ρ' p.2)):=fun ps hp=>
  List.map_congr_left fun p hm=>by rw[hp p.2 (List.mem_map.2 ⟨p,hm,rfl⟩)]
 cases op with
 |move x=>simp only[dR,h x (by simp[Op.operands])]
 |assign x=>simp only[dR,h x (by simp[Op.operands])]
 |pick c a b=>simp only[dR,h c (by simp[Op.operands]),h a (by simp[Op.operands]),h b (by simp[Op.operands])]
 |box t x=>simp only[dR,h x (by simp[Op.operands])]
 |build t ps=>simp only[dR,pairs ps (fun x hx=>h x (by simpa [Op.operands] using hx))]
 |buildSlice t n ps=>simp only[dR,pairs ps (fun x hx=>h x (by simpa [Op.operands] using hx))]
 |load t x=>simp only[dR,h x (by simp[Op.operands])]
 |store t a x=>simp only[dR,h a (by simp[Op.operands]),h x (by simp[Op.operands])]
 |nilCheck x=>simp only[dR,h x (by simp[Op.operands])]
 |binOp o t x y yt=>simp only[dR,h x (by simp[Op.operands]),h y (by simp[Op.operands])]
 |unOp o t x=>simp only[dR,h x (by simp[Op.operands])]
 |convert s d x=>simp only[dR,h x (by simp[Op.operands])]
 |makeFunc f a b=>
  cases f with
  |func f=>
   simp only[dR]
   have:b.toList.map ρ=b.toList.map ρ':=List.map_congr_left fun x hx=>h x (by simp[Op.operands];right;simpa using hx)
   rw[this]
  |_=>rfl
 |makeSlice t l c=>simp only[dR,h l (by simp[Op.operands]),h c (by simp[Op.operands])]
 |slice t x lo hi mx=>
  cases mx with
  |none=>
   simp only[dR,h x (by simp[Op.operands])]
   have e1:lo.map ρ=lo.map ρ':=by cases lo with | none=>rfl | some y=>simp[h y (by simp[Op.operands])]
   have e2:hi.map ρ=hi.map ρ':=by cases hi with | none=>rfl | some y=>simp[h y (by simp[Op.operands])]
   rw[e1,e2]
  |some m=>
   simp only[dR,h x (by simp[Op.operands]),h m (by simp[Op.operands])]
   have e1:lo.map ρ=lo.map ρ':=by cases lo with | none=>rfl | some y=>simp[h y (by simp[Op.operands])]
   have e2:hi.map ρ=hi.map ρ':=by cases hi with | none=>rfl | some y=>simp[h y (by simp[Op.operands])]
   rw[e1,e2]
 |fieldAddr t x f=>simp only[dR,h x (by simp[Op.operands])]
 |field t x f=>simp only[dR,h x (by simp[Op.operands])]
 |indexAddr t x i=>simp only[dR,h x (by simp[Op.operands]),h i (by simp[Op.operands])]
 |index t x i=>simp only[dR,h x (by simp[Op.operands]),h i (by simp[Op.operands])]
 |extract x i=>simp only[dR,h x (by simp[Op.operands])]
 |call c=>
  obtain⟨callee,args,ts⟩:=c
  cases callee with
  |builtin b=>
   have hm:∀ l:List Operand,l ⊆ args.toList→l.map ρ=l.map ρ':=fun l hl=>List.map_congr_left fun x hx=>h x (by simp[Op.operands,Call.operands];simpa using hl hx)
   have hargs:=hm args.toList (fun _ h=>h)
   obtain⟨args⟩:=args
   cases b with
   |len=>
    match args,ts,h with
    |[x],⟨[t]⟩,h=>simp only[dR,h x (by simp[Op.operands,Call.operands])]
    |[],_,_=>simp[dR]
    |_::_::_,_,_=>simp[dR]
    |[_],⟨[]⟩,_=>simp[dR]
    |[_],⟨_::_::_⟩,_=>simp[dR]
   |append=>
    match args,h with
    |[x,y],h=>simp only[dR,h x (by simp[Op.operands,Call.operands]),h y (by simp[Op.operands,Call.operands])]
    |[],_=>simp[dR]
    |[_],_=>simp[dR]
    |_::_::_::_,_=>simp[dR]
   |copy=>
    match args,h with
    |[x,y],h=>simp only[dR,h x (by simp[Op.operands,Call.operands]),h y (by simp[Op.operands,Call.operands])]
    |[],_=>simp[dR]
    |[_],_=>simp[dR]
    |_::_::_::_,_=>simp[dR]
   |clear=>
    match args,h with
    |[x],h=>simp only[dR,h x (by simp[Op.operands,Call.operands])]
    |[],_=>simp[dR]
    |_::_::_,_=>simp[dR]
   |max=>simp only[dR];simp only[hargs]
   |min=>simp only[dR];simp only[hargs]
   |_=>rfl
  |value f=>rfl
  |invoke r m=>rfl
 |_=>rfl
def Agree (N:Nat→Prop) (bk bk':Nat→Option fK):Prop:=∀ i,¬ N i→(bk' i).map fK.cells=(bk i).map fK.cells
theorem Agree.symm {N:Nat→Prop} {bk bk':Nat→Option fK} (h:Agree N bk bk'):Agree N bk' bk:=fun i hi=>(h i hi).symm
theorem OT {N:Nat→Prop} {bk bk':Nat→Option fK} (h:Agree N bk bk') {d:D} (hd:∀ i,N i→d.has i=false):d.behind bk'=d.behind bk:=by
 cases d with
 |ptr id off=>
  have hn:¬ N id:=fun hN=>by have:=hd id hN;simp[D.has] at this
  have:=h id hn
  simp only[D.behind]
  cases h1:bk id<;>cases h2:bk' id<;>simp[h1,h2] at this ⊢
  exact this
 |pel id i n j=>
  have hn:¬ N id:=fun hN=>by have:=hd id hN;simp[D.has] at this
  have:=h id hn
  simp only[D.behind]
  cases h1:bk id<;>cases h2:bk' id<;>simp[h1,h2] at this ⊢
  exact this
 |_=>rfl
theorem TJ {bk bk':Nat→Option fK} {t:TypeId} {x:D} {lo hi:Option D} (h:∀ id off,x= .ptr id off→(bk' id).map fK.cells=(bk id).map fK.cells):xM P bk' t x lo hi=xM P bk t x lo hi:=by
 by_cases hp:∃ id off,x= .ptr id off
 ·obtain⟨id,off,rfl⟩:=hp
  have hid:=h id off rfl
  show lG P bk' t _ lo hi=lG P bk t _ lo hi
  unfold lG
  cases P.underlying t with
  |none=>rfl
  |some u=>
   cases u with
   |array n elem=>
    simp only[]
    cases P.info? elem with
    |none=>rfl
    |some j=>
     cases dP hi n n with
     |none=>rfl
     |some h'=>
      simp only[]
      cases dP lo 0 h' with
      |none=>rfl
      |some l=>
       simp only[]
       cases h1:bk id with
       |none=>cases h2:bk' id with
        |none=>rfl
        |some b'=>rw[h1,h2] at hid;simp at hid
       |some b=>cases h2:bk' id with
        |none=>rw[h1,h2] at hid;simp at hid
        |some b'=>rw[h1,h2] at hid;simp at hid;simp only[hid]
   |_=>rfl
 ·suffices hs:lG P bk' t x lo hi=lG P bk t x lo hi by
   unfold xM;split
   ·rfl
   ·exact hs
  unfold lG
  cases P.underlying t with
  |none=>rfl
  |some u=>
   cases x with
   |ptr id off=>exact absurd ⟨id,off,rfl⟩ hp
   |v y=>cases u<;>cases y<;>first | rfl | (rename_i o n c;cases o<;>cases n<;>cases c<;>rfl)
   |_=>cases u<;>rfl
theorem TI {bk bk':Nat→Option fK} {size:Nat} {x:D} (h:∀ id off n sz,x= .sl id off n sz→(bk' id).map fK.cells=(bk id).map fK.cells):x.elems bk' size=x.elems bk size:=by
 cases x with
 |sl id off n sz=>
  have hid:=h id off n sz rfl
  simp only[D.elems]
  cases h1:bk id with
  |none=>cases h2:bk' id with
   |none=>rfl
   |some b'=>rw[h1,h2] at hid;simp at hid
  |some b=>cases h2:bk' id with
   |none=>rw[h1,h2] at hid;simp at hid
   |some b'=>rw[h1,h2] at hid;simp at hid;simp only[hid]
 |v y=>
  cases y with
  |slice o n c=>cases o<;>cases n<;>cases c<;>rfl
  |_=>rfl
 |_=>rfl
theorem CY {N:Nat→Prop} {bk bk':Nat→Option fK} (h:Agree N bk bk') {ρ:Operand→D} {ty:TypeId} {op:Op} (hk:kindOf P op≤1) (hn:∀ x∈op.operands,∀ i,N i→(ρ x).has i=false):dR P bk' ρ ty op=dR P bk ρ ty op:=by
 cases op with
 |load t a=>simp only[dR,S9,OT h (hn a (by simp[Op.operands]))]
 |slice t x lo hi mx=>
  cases mx with
  |none=>
   simp only[dR]
   refine TJ (fun id off hρ=>h id fun hN=>?_)
   have:=hn x (by simp[Op.operands]) id hN
   rw[hρ] at this
   simp[D.has] at this
  |some _=>rfl
 |store t a x=>simp[kindOf] at hk
 |call c=>
  obtain⟨callee,args,ts⟩:=c
  cases callee with
  |builtin b=>
   obtain⟨args⟩:=args
   obtain⟨ts⟩:=ts
   have key:∀ y∈args,∀ size,(ρ y).elems bk' size=(ρ y).elems bk size:=fun y hy size=>TI (fun id off n sz hρ=>h id fun hN=>by
    have:=hn y (by simp[Op.operands,Call.operands,hy]) id hN
    rw[hρ] at this
    simp[D.has] at this)
   cases b with
   |append=>
    rcases args with _ | ⟨x,_ | ⟨y,_ | ⟨z,l⟩⟩⟩
    ·rfl
    ·rfl
    ·simp only[dR,jQ,key y (by simp)]
    ·rfl
   |len=>rcases args with _ | ⟨x,_ | ⟨y,l⟩⟩<;>rcases ts with _ | ⟨t,_ | ⟨u,m⟩⟩<;>rfl
   |_=>first | rfl | (simp[kindOf] at hk;done)
  |value f=>rfl
  |invoke r m=>rfl
 |makeFunc f a b=>cases f<;>rfl
 |_=>rfl
theorem vY {bk bk':Nat→Option fK} {ρ:Operand→D} {ty:TypeId} {op:Op} (hk:kindOf P op=0):dR P bk' ρ ty op=dR P bk ρ ty op:=by
 cases op with
 |load t a=>simp[kindOf] at hk
 |slice t x lo hi mx=>cases mx with | none=>simp[kindOf] at hk | some _=>rfl
 |store t a x=>simp[kindOf] at hk
 |call c=>
  obtain⟨callee,args,ts⟩:=c
  cases callee with
  |builtin b=>
   obtain⟨args⟩:=args
   obtain⟨ts⟩:=ts
   cases b<;>first | rfl | (simp[kindOf] at hk;done) | (rcases args with _ | ⟨x,_ | ⟨y,l⟩⟩<;>rcases ts with _ | ⟨t,_ | ⟨u,m⟩⟩<;>rfl)
  |value f=>simp[kindOf] at hk
  |invoke r m=>rfl
 |makeFunc f a b=>cases f<;>rfl
 |_=>rfl
mutual
theorem TN {N:Nat→Prop} {bk bk':Nat→Option fK} (h:Agree N bk bk') (hb:∀ i b,bk i=some b→∀ n,N n→D.dm n b.cells=false):∀ (k:Nat) (d:D),(∀ i,N i→d.has i=false)→share bk' k d=share bk k d
 |0, .undef,_ | 0, .yld,_ | 0, .emp,_ | 0, .rc _,_ | 0, .oc _,_ | 0, .pel _ _ _ _,_ | 0, .v _,_ | 0, .sh _ _,_ | 0, .ow _ _ _,_ | 0, .sl _ _ _ _,_ | 0, .ptr _ _,_ | 0, .shp _ _,_ | 0, .agg _,_ | 0, .aS _,_=>rfl
 |0, .fn _ cs,_=>by cases cs<;>rfl
 |k+1, .sl id off n sz,hd=>by
  have hn:¬ N id:=fun hN=>by have:=hd id hN;simp[D.has] at this
  have hid:=h id hn
  simp only[share]
  cases h1:bk id with
  |none=>cases h2:bk' id with
   |none=>rfl
   |some b'=>rw[h1,h2] at hid;simp at hid
  |some b=>cases h2:bk' id with
   |none=>rw[h1,h2] at hid;simp at hid
   |some b'=>
    rw[h1,h2] at hid
    simp at hid
    simp only[hid]
    have hcs:∀ i,N i→D.dm i ((b.cells.drop off).take (n*sz))=false:=fun i hi=>QX (hb id b h1 i hi) _ _
    have e:share.aW (share bk' k) ((b.cells.drop off).take (n*sz))=share.aW (share bk k) ((b.cells.drop off).take (n*sz)):=jG h hb k _ hcs
    rw[e]
 |k+1, .agg cs,hd=>by
  simp only[share]
  have e:share.aW (share bk' k) cs=share.aW (share bk k) cs:=jG h hb k cs (fun i hi=>by simpa [D.has] using hd i hi)
  rw[e]
 |k+1, .undef,_=>rfl
 |k+1, .v _,_=>rfl
 |k+1, .yld,_=>rfl
 |k+1, .sh _ _,_=>rfl
 |k+1, .rc _,_=>rfl
 |k+1, .oc _,_=>rfl
 |k+1, .pel _ _ _ _,_=>rfl
 |k+1, .ow _ _ _,_=>rfl
 |k+1, .ptr _ _,_=>rfl
 |k+1, .shp _ _,_=>rfl
 |k+1, .emp,_=>rfl
 |k+1, .fn _ cs,_=>by cases cs<;>rfl
 |k+1, .aS _,_=>rfl
theorem jG {N:Nat→Prop} {bk bk':Nat→Option fK} (h:Agree N bk bk') (hb:∀ i b,bk i=some b→∀ n,N n→D.dm n b.cells=false):∀ (k:Nat) (ds:List D),(∀ i,N i→D.dm i ds=false)→aW (share bk' k) ds=aW (share bk k) ds
 |_,[],_=>rfl
 |k,d::ds,hd=>by
  have e:share.aW (share bk' k) ds=share.aW (share bk k) ds:=jG h hb k ds (fun i hi=>by have:=hd i hi;simp[D.dm] at this;exact this.2)
  simp only[share.aW]
  rw[e,TN h hb k d (fun i hi=>by have:=hd i hi;simp[D.dm] at this;exact this.1)]
theorem QX {i:Nat} {cs:List D} (h:D.dm i cs=false) (a b:Nat):D.dm i ((cs.drop a).take b)=false:=by
 have hd:∀ (a:Nat) (cs:List D),D.dm i cs=false→D.dm i (cs.drop a)=false:=by
  intro a
  induction a with
  |zero=>intro cs h;simpa using h
  |succ a ih=>
   intro cs h
   cases cs with
   |nil=>simpa using h
   |cons d ds=>simp[D.dm] at h;simpa using ih ds h.2
 have ht:∀ (b:Nat) (cs:List D),D.dm i cs=false→D.dm i (cs.take b)=false:=by
  intro b
  induction b with
  |zero=>intro cs h;simp[D.dm]
  |succ b ih=>
   intro cs h
   cases cs with
   |nil=>simp[D.dm]
   |cons d ds=>simp[D.dm] at h;simp[D.dm,h.1,ih ds h.2]
 exact ht b _ (hd a cs h)
end
theorem VE {n:Nat} {bk bk':Nat→Option fK} (h:Agree (·=n) bk bk'):∀ (k:Nat) (d e:D) (ids:List Nat),share bk k d=some (e,ids)→n∉ids→share bk' k d=some (e,ids):=by
 intro k
 induction k with
 |zero=>
  intro d e ids hd _
  cases d with
  |fn f cs=>cases cs<;>exact hd
  |_=>exact hd
 |succ k ih=>
  have hall:∀ (ds es:List D) (ids:List Nat),aW (share bk k) ds=some (es,ids)→n∉ids→aW (share bk' k) ds=some (es,ids):=by
   intro ds
   induction ds with
   |nil=>intro es ids hd _;exact hd
   |cons d ds ihd=>
    intro es ids hd hn
    simp only[share.aW] at hd ⊢
    split at hd
    next e i es' is' h1 h2=>
     simp at hd;obtain⟨rfl,rfl⟩:=hd
     have e2:=ihd es' is' h2 (fun hm=>hn (by simp[hm]))
     simp only[aW] at e2
     rw[ih d e i h1 (fun hm=>hn (by simp[hm])),e2]
    ·cases hd
  intro d e ids hd hn
  cases d with
  |sl id off m sz=>
   simp only[share] at hd ⊢
   split at hd
   ·cases hd
   next b hb=>
    split at hd
    next hl=>
     split at hd
     ·cases hd
     next cs is h1=>
      simp at hd;obtain⟨rfl,rfl⟩:=hd
      have hne:¬ id=n:=fun e=>hn (by simp[e])
      have hid:=h id hne
      cases h2:bk' id with
      |none=>rw[hb,h2] at hid;simp at hid
      |some b'=>
       rw[hb,h2] at hid
       simp at hid
       simp only[hid,hl,if_true]
       have e:=hall _ _ _ h1 (fun hm=>hn (by simp[hm]))
       simp only[aW] at e
       rw[e]
    ·cases hd
  |agg cs=>
   simp only[share] at hd ⊢
   split at hd
   ·cases hd
   next ds is h1=>
    simp at hd;obtain⟨rfl,rfl⟩:=hd
    have e:=hall _ _ _ h1 hn
    simp only[aW] at e
    rw[e]
  |fn f cs=>cases cs<;>exact hd
  |_=>exact hd
theorem mD {n:Nat} {bk bk':Nat→Option fK} (h:Agree (·=n) bk bk') (k:Nat):∀ (ds es:List D) (ids:List Nat),aW (share bk k) ds=some (es,ids)→n∉ids→aW (share bk' k) ds=some (es,ids)
 |[],es,ids,hd,_=>hd
 |d::ds,es,ids,hd,hn=>by
  simp only[share.aW] at hd ⊢
  split at hd
  next e i es' is' h1 h2=>
   simp at hd;obtain⟨rfl,rfl⟩:=hd
   have e2:=mD h k ds es' is' h2 (fun hm=>hn (by simp[hm]))
   simp only[aW] at e2
   rw[VE h k d e i h1 (fun hm=>hn (by simp[hm])),e2]
  ·cases hd
end
end Go.Dam
end
